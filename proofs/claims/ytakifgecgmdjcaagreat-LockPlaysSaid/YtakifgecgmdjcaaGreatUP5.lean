/- Texts of this work, put together: LkAN, LkAO, GrA, GrB, GrC, GrD, LkBA, LkBB, LkBC, PlA, PlB, PlC, PlD, PlE, PlF, PlG, PlH, PlI, PlJ, PlK, PlL, PlM, LkCA, LkCB, LkCC, LkCD. -/
import Derived.Test.YtakifgecgmdjcaaGreatUP4
import Derived.ArgAppend
/- Locks: LockTurns. -/
namespace Go.Proofs.YtakifgecgmdjcaaGreat
open Go Xf Go.RowKit
set_option linter.unusedVariables false
set_option linter.unusedSimpArgs false
set_option maxRecDepth 100000

def opBx (b : Nat) (o : LOp) : Nat × Obj := (b, .cells (opV o).toArray 33 (0, 0))
theorem op_cells {w : World} {b : Nat} {o : LOp} (h : w.heap[b]? = some (opBx b o).2) : w.cell? ⟨b, 0, none⟩ = some (.int .i64 o.kind) ∧ w.cell? ⟨b, 1, none⟩ = some (.int .i64 o.txn) ∧ w.cell? ⟨b, 2, none⟩ = some (strV o.want.name) ∧ w.cell? ⟨b, 3, none⟩ = some (.int .i64 o.want.mode) :=
  ⟨(cell_at h).trans rfl, (cell_at h).trans rfl, (cell_at h).trans rfl, (cell_at h).trans rfl⟩
theorem op_boxload {w : World} {b : Nat} {o : LOp} (h : w.heap[b]? = some (opBx b o).2) : (loadVar 33 ⟨b, 0, none⟩).run Tryz.prog w = .ok (.agg (opV o).toArray) w :=
  run_loadVarN (cs := opV o) ag33 (by rw [sz33]; rfl) (cells_read (cs := (opV o).toArray) h)
theorem op_boxwant {w : World} {b : Nat} {o : LOp} (h : w.heap[b]? = some (opBx b o).2) : (loadVar 31 ⟨b, 2, none⟩).run Tryz.prog w = .ok (wtV o.want) w :=
  run_loadVarN (cs := [strV o.want.name, .int .i64 o.want.mode]) ag31 (by rw [sz31]; rfl) fun j v hj => by
    rw [add_mk, cell_at h]
    match j with
    | 0 => exact hj
    | 1 => exact hj
    | j + 2 => simp at hj
theorem Fine.ask {T : Tb} {B : Nat} (h : Fine T B) (new : Nat) (txn : Int) (v : Wt) (ho : in64 txn) : Fine (askT T new txn v).1 (B + 1) := ⟨askT_ok new txn v h.ok, askT_sz new txn v h.sz, askT_good h.good new txn v ho⟩
theorem askT_no {T : Tb} {new : Nat} {txn : Int} {v : Wt} (h : (askT T new txn v).2.2 ≠ 0) : (askT T new txn v).2.1 = false := by
  unfold askT at h ⊢
  by_cases hok : argsOk txn v
  · rw [if_pos hok] at h ⊢
    by_cases hw : (aGet T.waits txn).isSome = true
    · rw [if_pos hw]
    · rw [if_neg hw] at h; exact absurd rfl h
  · rw [if_neg hok]
section
variable {W w w' : World} {F : List (Nat × Obj)} {g : Nat} {T : Tb} {K : Value → World → Prop}
theorem Turns_lives {Q : Value → World → Prop} (hU : Upd W w []) (hQ : ∀ w', Upd W w' [] → Q (.bool true) w') : (std Tryz.prog).calls 8 #[] w Q :=
  st_call (lives_spec hU (Owns.nil w)) fun u w' ⟨h1, h2⟩ => by subst h1; exact hQ w' h2
end
end Go.Proofs.YtakifgecgmdjcaaGreat

/- Locks: LockTurns, put together. -/
namespace Go.Proofs.YtakifgecgmdjcaaGreat
open Go Xf Go.RowKit
set_option linter.unusedVariables false
set_option linter.unusedSimpArgs false
set_option maxRecDepth 100000

end Go.Proofs.YtakifgecgmdjcaaGreat

/- Graphs: the keys of a map of edges; a row of numbers that wait. -/
namespace Go.Proofs.YtakifgecgmdjcaaGreat
open Go Xf Go.RowKit
set_option linter.unusedVariables false
set_option linter.unusedSimpArgs false
set_option maxRecDepth 100000

def keyE (e : Ed) : Value := .agg (edV e).toArray
theorem uEdge : ∃ fs, Tryz.prog.underlying 129 = some (.struct fs) := ⟨Tryz.prog.fieldsOf 129, by kernel_rfl⟩
theorem uGraphMap : Tryz.prog.underlying 125 = some (.map 129 4) := by kernel_rfl
theorem check_ed (e : Bool) (a : Ed) (w : World) : (Instr.checkKey e 10000 129 (keyE a)).run Tryz.prog w = .ok () w := by kernel_rfl
theorem eqIn_ged (a b : Ed) (w : World) : (Op.equalIn 10000 129 (keyE a) (keyE b)).run Tryz.prog w = .ok (decide (a = b)) w := by
  have u3 := Tryz.underlying3
  have a3 := Tryz.isAgg3
  have z3 := Tryz.sizeOf3
  have hS : Tryz.prog.underlying 129 = some (.struct (Tryz.prog.fieldsOf 129)) := by kernel_rfl
  have hp : Tryz.prog.stoodInHeld 129 = false := by kernel_rfl
  have he : (a.1 == b.1 && a.2 == b.2) = decide (a = b) := by
    obtain ⟨a1, a2⟩ := a
    obtain ⟨b1, b2⟩ := b
    by_cases h1 : a1 = b1 <;> by_cases h2 : a2 = b2 <;> simp [h1, h2]
  rw [← he]
  simp only [keyE, edV]
  rw [show (10000 : Nat) = 9999 + 1 from rfl, run_equalIn_agg w 9999 129 _ _ hS hp]
  simp only [Program.fieldsOf, Tryz.underlying129]
  go_simp
  by_cases h1 : a.fst = b.fst <;> by_cases h2 : a.snd = b.snd <;> simp [h1, h2, Prod.ext_iff]
theorem findAsking_ed {ν : Type} {ve : ν → Value} {w : World} (k : Ed) : ∀ (es : List MapEntry) (l : List (Ed × ν)) (i : Nat), es.map (fun e => (e.key, e.val)) = l.map (fun p => (keyE p.1, ve p.2)) →
    (Instr.findAsking 129 (keyE k) es i).run Tryz.prog w = .ok ((aFind l k i).map fun p => (p.1, ve p.2)) w
  | [], [], i, h => rfl
  | [], p :: l, i, h => by simp at h
  | e :: es, [], i, h => by simp at h
  | e :: es, p :: l, i, h => by
    simp only [List.map_cons, List.cons.injEq, Prod.mk.injEq] at h
    obtain ⟨⟨h1, h2⟩, h3⟩ := h
    unfold Instr.findAsking aFind
    have heq : (Op.equal 129 (keyE k) e.key).run Tryz.prog w = .ok (decide (k = p.1)) w := by rw [h1]; exact eqIn_ged k p.1 w
    rw [Sem.run_bind, heq]
    simp only [Result.andThen_ok]
    by_cases he : k = p.1
    · rw [if_pos he, if_pos (decide_eq_true he), h2]; rfl
    · rw [if_neg he, if_neg (by simpa using he)]
      exact findAsking_ed k es l (i + 1) h3
theorem keyE_ok : KeyOk Tryz.prog 129 keyE := by
  refine ⟨fun w e a => check_ed e a w, fun ve w k es l h => ?_, fun a => ?_⟩
  · obtain ⟨fs, hS⟩ := uEdge
    unfold Instr.findKey
    rw [Sem.run_bind, run_underlying' hS]
    simp only [Result.andThen_ok]
    match es, l, h with
    | [], [], h => rfl
    | [], p :: l, h => simp at h
    | e :: es, [], h => simp at h
    | e :: es, p :: l, h =>
      unfold Instr.findNow
      have : Instr.sameNow (.struct fs) (keyE k) e.key = none := rfl
      rw [this]
      exact findAsking_ed k _ _ 0 h
  · simp [keyE, edV, Instr.sameBits]
/-- a row of numbers that may begin behind the first cell of its one block -/
def RowQ (v : Value) (l : List Int) (q : Nat × Obj) : Prop :=
  ∃ off cap cs, v = .slice (some ⟨q.1, off, none⟩) l.length cap ∧ q.2 = .cells cs 3 (0, 0) ∧ l.length ≤ cap ∧ off + cap ≤ cs.size ∧ ∀ i (h : i < l.length), cs[off + i]? = some (.int .i64 l[i])
section
variable {W w w' : World} {ks : List Nat} {F : List (Nat × Obj)} {K : Value → World → Prop} {q : Nat × Obj} {l : List Int} {v : Value}
theorem RowQ.at_ (h : RowQ v l q) (hq : w.heap[q.1]? = some q.2) {i : Nat} (hi : i < l.length) : ∃ off cap, v = .slice (some ⟨q.1, off, none⟩) l.length cap ∧ w.cell? ⟨q.1, off + i, none⟩ = some (.int .i64 l[i]) := by
  obtain ⟨off, cap, cs, rfl, h2, -, -, h6⟩ := h
  rw [h2] at hq
  exact ⟨off, cap, rfl, (cell_at hq).trans (h6 i hi)⟩
/-- the row without its first number -/
theorem RowQ.tail {x : Int} {l : List Int} (h : RowQ v (x :: l) q) : ∃ v', RowQ v' l q ∧ ∀ w : World, (sSlice 44 v (some (.int .i64 1)) none none).run Tryz.prog w = .ok (.value v') w := by
  obtain ⟨off, cap, cs, rfl, h2, h3, h5, h6⟩ := h
  rw [List.length_cons] at h3
  refine ⟨.slice (some ⟨q.1, if cap = 1 then off else off + 1, none⟩) l.length (cap - 1), ⟨_, _, cs, rfl, h2, by omega, by split <;> omega, fun i hi => ?_⟩, fun w => ?_⟩
  · have h7 := h6 (i + 1) (by simp; omega)
    rw [if_neg (by omega)]
    rw [show off + 1 + i = off + (i + 1) by omega, h7]
    rfl
  · rw [run_sliceFrom u44 sz3 (by omega) (by rw [List.length_cons]; omega) (by rw [List.length_cons]; exact h3), List.length_cons]
    have e1 : (1 : Int).toNat = 1 := rfl
    rw [e1, Nat.add_sub_cancel]
    by_cases hc : cap = 1
    · rw [if_pos hc, if_pos hc]
    · rw [if_neg hc, if_neg hc]; rfl
/-- one number more -/
theorem st_push (hr : RowQ v l q) (hl : l.length ≤ 1000000000) (hU : Upd W w ks) (hO : Owns w (q :: F)) (hq : q.1 ∈ ks ∨ W.heap.size ≤ q.1) (x : Int)
    (hk : ∀ v' q' w', RowQ v' (l ++ [x]) q' → Owns w' (q' :: F) → Upd W w' ks → (q'.1 ∈ ks ∨ W.heap.size ≤ q'.1) → K v' w') :
    (std Tryz.prog).step (sBuildSlice 44 1 [(0, .int .i64 x)]) w fun u w => (std Tryz.prog).step (sBuiltin .append #[44, 44] 44 [false, false] [v, u]) w K := by
  refine st_newRow (fun w => row_int x w) hU hO ?_
  intro gr w1 hU1 hO1 hgr
  obtain ⟨inf, e1, e2, e3, e4⟩ := info_int
  obtain ⟨off, cap, cs, rfl, h2, h3, h5, h6⟩ := hr
  obtain ⟨b, ob⟩ := q
  simp only at h2 hq
  subst h2
  have hb1 := hO1.at_ 1 rfl
  have hnew : ∀ j u, [Value.int .i64 x][j]? = some u → w1.cell? ((⟨gr, 0, none⟩ : Addr).add j) = some u := cells_read (cs := #[.int .i64 x]) (hO1.at_ 0 rfl)
  by_cases hroom : l.length + 1 ≤ cap
  · have ha : off + l.length < cs.size := by omega
    have hrun := run_append_room_cells (P := Tryz.prog) w1 44 44 3 inf u44 e1 b off l.length cap ⟨gr, 0, none⟩ 1 1 [.int .i64 x] (by rw [e3]; rfl) hnew (by simp [Value.oneCell']) hroom
      (fun j hj => by
        have : j = 0 := by simpa using hj
        subst this
        rw [e3, Nat.mul_one, Nat.add_zero, cell_at hb1, Array.getElem?_eq_getElem ha]; rfl)
      (fun j hj => frozen_at hb1 (.inr (Nat.zero_le _)))
    rw [e3, Nat.mul_one] at hrun
    have hstep : (sBuiltin .append #[44, 44] 44 [false, false] [.slice (some ⟨b, off, none⟩) l.length cap, .slice (some ⟨gr, 0, none⟩) 1 1]).run Tryz.prog w1 = .ok (.value (.slice (some ⟨b, off, none⟩) (l.length + 1) cap)) (w1.setCells b (off + l.length) [.int .i64 x]) := by
      show (do pure (.value (← Builtin.append_ #[44, 44] 44 #[.slice (some ⟨b, off, none⟩) l.length cap, .slice (some ⟨gr, 0, none⟩) 1 1])) : Sem Next).run Tryz.prog w1 = _
      rw [Sem.run_bind, hrun]; rfl
    rw [step_run hstep]
    have hset : w1.setCells b (off + l.length) [.int .i64 x] = w1.setCell ⟨b, off + l.length, none⟩ (.int .i64 x) := rfl
    rw [hset]
    have hO2 := hO1.setCell (off := off + l.length) 1 rfl (.int .i64 x)
    refine hk _ (b, .cells (cs.setIfInBounds (off + l.length) (.int .i64 x)) 3 (0, 0)) _ ⟨off, cap, _, by rw [List.length_append, List.length_singleton], rfl, by rw [List.length_append, List.length_singleton]; omega, by simpa using h5, fun i hi => ?_⟩ (hO2.sub (List.sublist_cons_self ..)) (hU1.then_ (Upd.setCell _ _ _) fun y hy => by simp at hy; subst hy; exact hq) hq
    rw [List.length_append, List.length_singleton] at hi
    rw [Array.getElem?_setIfInBounds]
    by_cases he : i = l.length
    · subst he; rw [if_pos rfl, if_pos ha]; simp
    · rw [if_neg (by omega), List.getElem_append_left (by omega)]
      exact h6 i (by omega)
  · have hcap : cap = l.length := by omega
    have holds : ∀ j u, (intsV .i64 l)[j]? = some u → w1.cell? ((⟨b, off, none⟩ : Addr).add j) = some u := fun j u hu => by
      unfold intsV at hu
      rw [List.getElem?_map] at hu
      cases hj : l[j]? with
      | none => rw [hj] at hu; cases hu
      | some y =>
        rw [hj] at hu
        obtain ⟨hjl, rfl⟩ := List.getElem?_eq_some_iff.1 hj
        rw [add_mk, cell_at hb1, h6 j hjl]; exact hu
    have hrun := run_append_grow (P := Tryz.prog) w1 44 44 3 inf (.int .i64 0) u44 e1 e2 ⟨b, off, none⟩ l.length cap (intsV .i64 l) (by rw [e3]; unfold intsV; simp) holds ⟨gr, 0, none⟩ 1 1 [.int .i64 x] (by rw [e3]; rfl) hnew (by omega) (by omega) (growslice_fits (by omega) (by rw [e4]; omega))
    have hge := grownCap_ge w1 (l.length + 1) cap 3
    generalize grownCap w1 (l.length + 1) cap 3 = gc at hrun hge
    have hstep : (sBuiltin .append #[44, 44] 44 [false, false] [.slice (some ⟨b, off, none⟩) l.length cap, .slice (some ⟨gr, 0, none⟩) 1 1]).run Tryz.prog w1 = .ok (.value (.slice (some ⟨w1.heap.size, 0, none⟩) (l.length + 1) gc)) (w1.drew.alloc (.cells ((intsV .i64 l).toArray ++ #[Value.int .i64 x] ++ Builtin.zeroCells (Value.int .i64 0).cells (gc - (l.length + 1))) 3)) := by
      show (do pure (.value (← Builtin.append_ #[44, 44] 44 #[.slice (some ⟨b, off, none⟩) l.length cap, .slice (some ⟨gr, 0, none⟩) 1 1])) : Sem Next).run Tryz.prog w1 = _
      rw [Sem.run_bind, hrun]; rfl
    rw [step_run hstep]
    have hz : (Builtin.zeroCells (Value.int .i64 0).cells (gc - (l.length + 1))).size = gc - (l.length + 1) := by rw [size_zeroCells]; show (gc - (l.length + 1)) * 1 = _; omega
    have hO2 := (hO1.ext (Upd.drew w1 [])).alloc (.cells ((intsV .i64 l).toArray ++ #[Value.int .i64 x] ++ Builtin.zeroCells (Value.int .i64 0).cells (gc - (l.length + 1))) 3)
    have hls : (intsV .i64 l).length = l.length := by unfold intsV; simp
    refine hk _ (w1.heap.size, .cells ((intsV .i64 l).toArray ++ #[Value.int .i64 x] ++ Builtin.zeroCells (Value.int .i64 0).cells (gc - (l.length + 1))) 3 (0, 0)) _ ⟨0, gc, _, by rw [List.length_append, List.length_singleton], rfl, by rw [List.length_append, List.length_singleton]; omega, ?_, fun i hi => ?_⟩ (hO2.sub (List.Sublist.cons_cons _ (.cons _ (.cons _ (List.Sublist.refl _))))) (hU1.trans ((Upd.drew w1 _).trans (Upd.alloc _ _ _))) (.inr hU1.size)
    · simp only [Array.size_append, List.size_toArray, hz, hls]
      show 0 + gc ≤ l.length + 1 + (gc - (l.length + 1)); omega
    · rw [List.length_append, List.length_singleton] at hi
      rw [Nat.zero_add, Array.getElem?_append_left (by simp [hls]; omega)]
      have : (intsV .i64 l).toArray ++ #[Value.int .i64 x] = (intsV .i64 (l ++ [x])).toArray := by simp [intsV]
      rw [this]
      unfold intsV
      simp only [List.getElem?_toArray, List.getElem?_map]
      rw [List.getElem?_eq_getElem (by simpa using hi)]; rfl
end
end Go.Proofs.YtakifgecgmdjcaaGreat

/- Graphs: what a thing leads to. -/
namespace Go.Proofs.YtakifgecgmdjcaaGreat
open Go Xf Go.RowKit
set_option linter.unusedVariables false
set_option linter.unusedSimpArgs false
set_option maxRecDepth 100000

abbrev eK (E : List (Ed × Unit)) : List Ed := E.map (·.1)
/-- b is reached from a -/
inductive Path (E : List Ed) : Int → Int → Prop
  | one {a b : Int} : (a, b) ∈ E → Path E a b
  | more {a b c : Int} : Path E a b → (b, c) ∈ E → Path E a c
theorem countP_lt {α : Type} {p q : α → Bool} : ∀ {l : List α}, (∀ x ∈ l, q x = true → p x = true) → ∀ {x : α}, x ∈ l → p x = true → q x = false → l.countP q + 1 ≤ l.countP p
  | [], _, x, hx, _, _ => by cases hx
  | y :: l, h, x, hx, h1, h2 => by
    have hle : l.countP q ≤ l.countP p := List.countP_mono_left fun z hz => h z (List.mem_cons_of_mem _ hz)
    rw [List.countP_cons, List.countP_cons]
    rcases List.mem_cons.1 hx with rfl | hx
    · rw [h1, h2]; simp; omega
    · have := countP_lt (fun z hz => h z (List.mem_cons_of_mem _ hz)) hx h1 h2
      have hy := h y (List.mem_cons_self ..)
      cases hq : q y <;> cases hp : p y <;> simp_all <;> omega
/-- edges whose end was not seen -/
def uns (E : List (Ed × Unit)) (la : List (Int × Unit)) : Nat := E.countP fun p => !(aGet la p.1.2).isSome
theorem uns_set {E : List (Ed × Unit)} {la : List (Int × Unit)} {e : Ed × Unit} (he : e ∈ E) (h : (aGet la e.1.2).isSome = false) : uns E (aSet la e.1.2 ()) + 1 ≤ uns E la := by
  unfold uns
  refine countP_lt (x := e) (fun x hx hq => ?_) he (by rw [h]; rfl) (by rw [aGet_aSet, if_pos rfl]; rfl)
  rw [aGet_aSet] at hq
  split at hq
  · cases hq
  · exact hq
def grO (bm : Nat) : Obj := .cells #[.map (some bm)] 127 (0, 0)
def ReachPost (W : World) (ks : List Nat) (F : List (Nat × Obj)) (E : List Ed) (n : Nat) (a : Int) (u : Value) (w' : World) : Prop :=
  ∃ b o la, u = .map (some b) ∧ MapO keyI uV la o ∧ Keys1 la ∧ (∀ y, y ∈ keysOf la ↔ Path E a y) ∧ la.length ≤ n ∧ Upd W w' ks ∧ Owns w' ((b, o) :: F) ∧ W.heap.size ≤ b
section
variable {W w w' : World} {ks : List Nat} {F : List (Nat × Obj)} {K : Value → World → Prop}
theorem reached_spec {E : List (Ed × Unit)} {bg bm : Nat} {om : Obj} (hm : MapO keyE uV E om) (hE : E.length ≤ 900000000) (hU : Upd W w ks) (hO : Owns w F) (hg : (bg, grO bm) ∈ F) (hbm : (bm, om) ∈ F) (a : Int) :
    CallsR Tryz.prog 91 #[.pointer (some ⟨bg, 0, none⟩), .int .i64 a] w fun u w' => ReachPost W ks F (eK E) E.length a u w' := by
  apply graph_Graph_int_reached_sound
  unfold graph_Graph_int_reached_x
  refine st_makeMap hU hO ?_
  intro ba w1 hU1 hO1 hba
  simp (disch := first | assumption | omega) only [PX, BX]
  refine st_newRow (fun w => row_int a w) hU1 hO1 ?_
  intro gq w2 hU2 hO2 hgq
  have huns : uns E [] ≤ E.length := List.countP_le_length
  let I : Nat → List Value → World → Prop := fun k vs w' => ∃ wt q la oa, wt.length + uns E la = k ∧ k ≤ E.length + 1 ∧ RowQ (vs.getD 2 undef) wt q ∧ MapO keyI uV la oa ∧ Keys1 la ∧ Owns w' (q :: (ba, oa) :: F) ∧ Upd W w' ks ∧ (q.1 ∈ ks ∨ W.heap.size ≤ q.1) ∧ la.length + uns E la ≤ E.length ∧ (∀ y ∈ keysOf la, Path (eK E) a y) ∧ (∀ y ∈ wt, y = a ∨ y ∈ keysOf la) ∧ (∀ x, (x = a ∨ x ∈ keysOf la) → x ∉ wt → ∀ y, (x, y) ∈ eK E → y ∈ keysOf la)
  refine st_loop (fun vs w' => ∃ k, I k vs w') (minK I) ⟨_, [a], (gq, .cells #[.int .i64 a] 3 (0, 0)), [], _, rfl, ?_, ⟨0, 1, _, rfl, rfl, Nat.le_refl _, Nat.le_refl _, fun i hi => ?_⟩, MapO.nil _ _, List.nodup_nil, hO2, hU2, .inr hgq, by simpa using huns, fun y hy => (by cases hy), fun y hy => .inl (by simpa using hy), ?_⟩ ?_
  · show 1 + uns E [] ≤ _; omega
  · have : i = 0 := by simpa using hi
    subst this; rfl
  · rintro x (rfl | hx) hn
    · exact absurd (List.mem_singleton.2 rfl) hn
    · cases hx
  rintro dv vs w3 - hex
  obtain ⟨⟨wt, q, la, oa, hk, hkE, hq, hmA, hk1, hO3, hU3, hqW, hla, hs1, hs2, hcl⟩, -⟩ := minK_spec hex
  generalize minK I vs w3 = k at hk hkE
  clear hex
  obtain ⟨off, cap, cs, ev, -⟩ := id hq
  cases wt with
  | nil =>
    rw [ev]
    simp (disch := first | assumption | omega) only [PX, BX, List.length_nil]
    refine ⟨fun h => absurd h (by decide), fun _ => ?_⟩
    unfold graph_Graph_int_reached_k1
    refine ⟨ba, oa, la, rfl, hmA, hk1, fun y => ⟨hs1 y, fun hp => ?_⟩, by omega, hU3, hO3.sub (List.sublist_cons_self ..), hba⟩
    induction hp with
    | one h => exact hcl _ (.inl rfl) (by simp) _ h
    | more _ h ih => exact hcl _ (.inr ih) (by simp) _ h
  | cons x wt =>
    have h63 : (x :: wt).length ≤ 9223372036854775807 := by omega
    obtain ⟨off', cap', ev', hc0⟩ := hq.at_ (hO3.at_ 0 rfl) (i := 0) (by simp)
    obtain ⟨v2, hq2, hsl⟩ := hq.tail
    rw [ev']
    have hlen1 : (0 : Int) < ((x :: wt).length : Nat) := by simp
    simp (disch := first | assumption | omega) only [PX, BX]
    refine ⟨fun _ => ?_, fun h => absurd hlen1 h⟩
    simp only [Nat.add_zero, List.getElem_cons_zero] at hc0
    have h0n : 0 < (x :: wt).length := by simp
    rw [show (Value.int .i64 0) = .int .i64 ((0 : Nat) : Int) from rfl, px_ix44 h0n]
    simp (disch := first | assumption | omega) only [PX, LX, add_mk, Nat.mul_one, Nat.add_zero]
    rw [← ev', step_run (hsl w3)]
    have cg : w3.cell? ⟨bg, 0, none⟩ = some (.map (some bm)) := (cell_at (hO3.2 (bg, grO bm) (by simp [hg]))).trans rfl
    simp (disch := first | assumption | omega) only [PX, LX, add_mk, Nat.reduceAdd]
    have hin : (bm, om) ∈ q :: (ba, oa) :: F := by simp [hbm]
    obtain ⟨jm, hjm⟩ := List.getElem?_of_mem hin
    refine st_range uGraphMap hU3 hO3 jm hjm hm ?_
    intro r w4 ob hI hU4 hO4 hr
    have hO4 : Owns w4 (q :: (r, ob) :: (ba, oa) :: F) := hO4.perm (List.Perm.swap ..)
    let J : Nat → List Value → World → Prop := fun k2 vs w' => ∃ left ob wt q la oa, left.length = k2 ∧ IterH keyE uV bm om left ob ∧ wt.length + uns E la + 1 ≤ k ∧ RowQ (vs.getD 1 undef) wt q ∧ MapO keyI uV la oa ∧ Keys1 la ∧ Owns w' (q :: (r, ob) :: (ba, oa) :: F) ∧ Upd W w' ks ∧ (q.1 ∈ ks ∨ W.heap.size ≤ q.1) ∧ la.length + uns E la ≤ E.length ∧ (∀ y ∈ keysOf la, Path (eK E) a y) ∧ (∀ y ∈ wt, y = a ∨ y ∈ keysOf la) ∧ (x = a ∨ x ∈ keysOf la) ∧ (∀ p ∈ left, p ∈ E) ∧ (∀ z, (z = a ∨ z ∈ keysOf la) → z ∉ wt → z ≠ x → ∀ y, (z, y) ∈ eK E → y ∈ keysOf la) ∧ (∀ y, (x, y) ∈ eK E → y ∈ keysOf la ∨ (x, y) ∈ eK left)
    refine st_loop (fun vs w' => ∃ k, J k vs w') (minK J) ⟨_, E, ob, wt, q, la, oa, rfl, hI, ?_, hq2, hmA, hk1, hO4, hU4, hqW, hla, hs1, fun y hy => hs2 y (List.mem_cons_of_mem _ hy), hs2 x (List.mem_cons_self ..), fun p hp => hp, fun z hz hn hx y hy => hcl z hz (fun hm => (List.mem_cons.1 hm).elim hx hn) y hy, fun y hy => .inr hy⟩ ?_
    · rw [List.length_cons] at hk; omega
    rintro dv2 vs2 w5 - hex2
    obtain ⟨⟨left, ob5, wt5, q5, la5, oa5, hk5, hI5, hb5, hr5, hm5, hk15, hO5, hU5, hqW5, hla5, hs15, hs25, hxa5, hE5, hcl5, hx5⟩, -⟩ := minK_spec hex2
    generalize minK J vs2 w5 = k2 at hk5
    clear hex2
    have hin5 : (bm, om) ∈ q5 :: (r, ob5) :: (ba, oa5) :: F := by simp [hbm]
    obtain ⟨jm5, hjm5⟩ := List.getElem?_of_mem hin5
    refine st_next hU5 hO5 1 rfl jm5 hjm5 hI5 (.inr hr) ?_ ?_
    · rintro rfl
      rw [px_ext1]
      simp only [BX]
      refine minK_go (I := I) (k' := wt5.length + uns E la5) ⟨wt5, q5, la5, oa5, rfl, by omega, hr5, hm5, hk15, hO5.sub (List.Sublist.cons_cons _ (List.sublist_cons_self ..)), hU5, hqW5, hla5, hs15, hs25, fun z hz hn y hy => ?_⟩ (by omega)
      by_cases hzx : z = x
      · subst hzx
        rcases hx5 y hy with h | h
        · exact h
        · cases h
      · exact hcl5 z hz hn hzx y hy
    · intro e left' w6 ob6 hperm hI6 hent hU6 hO6
      have hO6 : Owns w6 (q5 :: (r, ob6) :: (ba, oa5) :: F) := hO6
      have hlen := hperm.length_eq
      simp only [List.length_cons] at hlen
      have heE : e ∈ E := hE5 e (hperm.mem_iff.1 (List.mem_cons_self ..))
      have hE6 : ∀ p ∈ left', p ∈ E := fun p hp => hE5 p (hperm.mem_iff.1 (List.mem_cons_of_mem _ hp))
      have hx6 : ∀ y, (x, y) ∈ eK E → y ∈ keysOf la5 ∨ (x, y) = e.1 ∨ (x, y) ∈ eK left' := fun y hy => by
        rcases hx5 y hy with h | h
        · exact .inl h
        · obtain ⟨p, hp, hpe⟩ := List.mem_map.1 h
          rcases List.mem_cons.1 (hperm.mem_iff.2 hp) with h2 | h2
          · exact .inr (.inl (by rw [← hpe, h2]))
          · exact .inr (.inr (by rw [← hpe]; exact List.mem_map_of_mem (f := (·.1)) h2))
      simp only [PX, BX]
      rw [step_run (hent w6 (hO6.at_ 1 rfl) (hO6.2 (bm, om) (by simp [hbm])))]
      simp only [PX, BX]
      refine st_alloc ze129 hU6 hO6 ?_
      intro b8 w7 hU7 hO7 hb8
      refine st_storeN (vs := edV e.1) (by rw [sz129]; rfl) hU7 hO7 0 rfl (by show 0 + 2 ≤ 2; decide) (fun u hu => by simp [edV] at hu; rcases hu with rfl | rfl <;> rfl) (.inr hb8) ?_
      intro w8 hU8 hO8
      have hO8 : Owns w8 ((b8, .cells (edV e.1).toArray 129 (0, 0)) :: q5 :: (r, ob6) :: (ba, oa5) :: F) := hO8
      have c0 : w8.cell? ⟨b8, 0, none⟩ = some (.int .i64 e.1.1) := (cell_at (hO8.at_ 0 rfl)).trans rfl
      have c1 : w8.cell? ⟨b8, 1, none⟩ = some (.int .i64 e.1.2) := (cell_at (hO8.at_ 0 rfl)).trans rfl
      simp (disch := first | assumption | omega) only [PX, BX, LX, add_mk, Nat.reduceAdd]
      refine ⟨fun hfx => ?_, fun hfx => ?_⟩
      rotate_left
      · -- another's edge
        refine minK_go (I := J) (k' := left'.length) ⟨left', ob6, wt5, q5, la5, oa5, rfl, hI6, hb5, hr5, hm5, hk15, hO8.sub (List.sublist_cons_self ..), hU8, hqW5, hla5, hs15, hs25, hxa5, hE6, hcl5, fun y hy => ?_⟩ (by omega)
        rcases hx6 y hy with h | h | h
        · exact .inl h
        · exact absurd (by rw [← h]) hfx
        · exact .inr h
      rw [step_run (run_lookup (ve := uV) uAll keyI_ok ze4 (hO8.at_ 3 rfl) hm5 e.1.2 false), if_neg (by decide)]
      have hval : ((aGet la5 e.1.2).map uV).getD (.bool false) = .bool (aGet la5 e.1.2).isSome := by cases aGet la5 e.1.2 <;> rfl
      rw [hval]
      simp (disch := first | assumption | omega) only [PX]
      rw [bool_var]
      refine ⟨fun hno => ?_, fun his => ?_⟩
      rotate_left
      · have his : (aGet la5 e.1.2).isSome = true := by simpa using his
        refine minK_go (I := J) (k' := left'.length) ⟨left', ob6, wt5, q5, la5, oa5, rfl, hI6, hb5, hr5, hm5, hk15, hO8.sub (List.sublist_cons_self ..), hU8, hqW5, hla5, hs15, hs25, hxa5, hE6, hcl5, fun y hy => ?_⟩ (by omega)
        rcases hx6 y hy with h | h | h
        · exact .inl h
        · refine .inl ?_
          have : y = e.1.2 := by rw [← h]
          rw [this]; exact aGet_keys.1 his
        · exact .inr h
      have hno : (aGet la5 e.1.2).isSome = false := by simpa using hno
      simp (disch := first | assumption | omega) only [PX, LX, add_mk, Nat.reduceAdd]
      refine st_mapUpdate (ve := uV) uAll keyI_ok hU8 hO8 3 rfl hm5 (.inr hba) e.1.2 () ?_
      intro w9 oa9 hm9 hU9 hO9
      have hO9 : Owns w9 ((b8, .cells (edV e.1).toArray 129 (0, 0)) :: q5 :: (r, ob6) :: (ba, oa9) :: F) := hO9
      have d1 : w9.cell? ⟨b8, 1, none⟩ = some (.int .i64 e.1.2) := (cell_at (hO9.at_ 0 rfl)).trans rfl
      simp (disch := first | assumption | omega) only [PX, LX, add_mk, Nat.reduceAdd]
      refine st_push hr5 (by omega) hU9 (hO9.sub (List.sublist_cons_self ..)) hqW5 e.1.2 ?_
      intro v' q' w10 hr10 hO10 hU10 hq10
      have hu := uns_set heE hno
      have hnew : ∀ z, z ∈ keysOf (aSet la5 e.1.2 ()) ↔ z = e.1.2 ∨ z ∈ keysOf la5 := fun z => aSet_keys
      have hpe : Path (eK E) a e.1.2 := by
        have h1 : (x, e.1.2) ∈ eK E := by rw [← hfx]; exact List.mem_map_of_mem (f := (·.1)) heE
        rcases hxa5 with h | h
        · rw [h] at h1; exact .one h1
        · exact .more (hs15 x h) h1
      refine minK_go (I := J) (k' := left'.length) ⟨left', ob6, wt5 ++ [e.1.2], q', aSet la5 e.1.2 (), oa9, rfl, hI6, ?_, hr10, hm9, hk15.set, hO10, hU10, hq10, ?_, fun y hy => ?_, fun y hy => ?_, ?_, hE6, fun z hz hn hzx y hy => ?_, fun y hy => ?_⟩ (by omega)
      · rw [List.length_append, List.length_singleton]; omega
      · have := aSet_length e.1.2 () la5
        rw [hno] at this
        simp only [Bool.false_eq_true, if_false] at this
        omega
      · rcases (hnew y).1 hy with h | h
        · rw [h]; exact hpe
        · exact hs15 y h
      · rw [hnew]
        rcases List.mem_append.1 hy with h | h
        · exact (hs25 y h).elim .inl fun h => .inr (.inr h)
        · rw [List.mem_singleton] at h; exact .inr (.inl h)
      · rw [hnew]; exact hxa5.elim .inl fun h => .inr (.inr h)
      · rw [hnew]
        rw [List.mem_append, List.mem_singleton] at hn
        rw [hnew] at hz
        refine .inr (hcl5 z ?_ (fun h => hn (.inl h)) hzx y hy)
        rcases hz with h | h | h
        · exact .inl h
        · exact absurd h fun h => hn (.inr h)
        · exact .inr h
      · rw [hnew]
        rcases hx6 y hy with h | h | h
        · exact .inl (.inr h)
        · exact .inl (.inl (by rw [← h]))
        · exact .inr h
end
end Go.Proofs.YtakifgecgmdjcaaGreat

/- Graphs: rings. -/
namespace Go.Proofs.YtakifgecgmdjcaaGreat
open Go Xf Go.RowKit Go.Sort Go.Shelf
set_option linter.unusedVariables false
set_option linter.unusedSimpArgs false
set_option maxRecDepth 100000

section
variable {W w w' : World} {ks : List Nat} {F : List (Nat × Obj)} {K : Value → World → Prop}
/-- slices.Sort of numbers -/
theorem SortN_spec {hl : List (Nat × Obj)} {v : Value} {l : List Int} (hr : RowH 3 1 v l.length (intsV .i64 l) hl) (hl9 : l.length ≤ 1000000000) (hO : Owns w (hl ++ F)) (hU : Upd W w ks) (hh : ∀ p ∈ hl, p.1 ∈ ks ∨ W.heap.size ≤ p.1) :
    CallsR Tryz.prog 66 #[v] w fun u w' => ∃ h' : List (Nat × Obj), RowH 3 1 v (sortI l).length (intsV .i64 (sortI l)) h' ∧ Owns w' (h' ++ F) ∧ Upd W w' ks ∧ ∀ p ∈ h', p.1 ∈ ks ∨ W.heap.size ≤ p.1 := by
  have hsl : (sortI l).length = l.length := (sortI_perm l).length_eq
  rcases hr.2 with ⟨rfl, h0, rfl⟩ | ⟨gt, cap, cs0, rfl, rfl, hcap, hmax, hsz0, htk0⟩
  · have hl0 : l = [] := List.eq_nil_of_length_eq_zero h0
    subst hl0
    have hcon := AnyM.slices_Sort_int_none Tryz.sortB none 0 w
    change Calls Tryz.prog 66 _ _ _ at hcon
    refine Calls.mono hcon ?_
    rintro e w' ⟨rfl, rfl⟩
    have e0 : sortI [] = [] := by simp [sortI]
    rw [e0]
    exact ⟨_, rfl, [], RowH.nil_ _ _, hO, hU, fun p hp => (by cases hp)⟩
  have hb := hO.at_ 0 (rfl : ([(gt, Obj.cells cs0 3 (0, 0))] ++ F)[0]? = _)
  rw [Nat.mul_one] at hsz0 htk0
  have hget : ∀ j (h : j < l.length), cs0[j]? = some (.int .i64 l[j]) := fun j h => by
    have h1 : (intsV .i64 l)[j]? = some (.int .i64 l[j]) := by unfold intsV; simp [h]
    rw [← htk0, List.getElem?_take, if_pos h] at h1
    simpa using h1
  have hH : Holds (Value.int .i64) w gt 0 l.toArray := by
    intro j hj
    have hj' : j < l.length := by simpa using hj
    refine ⟨?_, frozen_at hb (.inr (Nat.zero_le _))⟩
    rw [cell_at hb, Nat.zero_add, hget j hj', getElem!_pos _ j hj]
    simp
  have hcon := AnyM.slices_Sort_int Tryz.sortB gt 0 cap l w hH (lt_of_some hb) (by omega)
  change Calls Tryz.prog 66 _ _ _ at hcon
  refine Calls.mono hcon ?_
  rintro e w' ⟨rfl, n, os, rfl⟩
  have hgW := hh _ (List.mem_cons_self ..)
  have hS : (l.mergeSort fun x y => decide (x ≤ y)) = sortI l := rfl
  rw [hS]
  have hheap : (grow (putRow (Value.int .i64) (Sort.ahead w n) gt 0 (sortI l).toArray) os).heap[gt]? = some (.cells (putCells (Value.int .i64) 0 (sortI l).toArray cs0) 3 (0, 0)) := by
    have hlt := lt_of_some hb
    unfold grow putRow mapBlock
    show (Array.modify w.heap gt _ ++ os)[gt]? = _
    rw [Array.getElem?_append_left (by simpa using hlt), Array.getElem?_modify, if_pos rfl, hb]
    rfl
  have hother : ∀ k, k < w.heap.size → k ≠ gt → (grow (putRow (Value.int .i64) (Sort.ahead w n) gt 0 (sortI l).toArray) os).heap[k]? = w.heap[k]? := fun k hk hne => by
    unfold grow putRow mapBlock
    show (Array.modify w.heap gt _ ++ os)[k]? = _
    rw [Array.getElem?_append_left (by simpa using hk), Array.getElem?_modify, if_neg (Ne.symm hne)]
  have hUs : Upd w (grow (putRow (Value.int .i64) (Sort.ahead w n) gt 0 (sortI l).toArray) os) [gt] := ⟨rfl, rfl, rfl, by unfold grow putRow mapBlock; simp [Sort.ahead], fun k hk hn => hother k hk (by simpa using hn)⟩
  have hF : Owns w F := hO.sub (List.sublist_append_right _ _)
  have hnd : ∀ p ∈ F, p.1 ≠ gt := fun p hp he => by
    have := hO.1
    rw [List.map_append, List.nodup_append] at this
    exact this.2.2 gt (by simp) p.1 (List.mem_map_of_mem hp) he.symm
  have hcsz : (putCells (Value.int .i64) 0 (sortI l).toArray cs0).size = cap := by unfold putCells; simp [hsz0]
  refine ⟨_, rfl, [(gt, .cells (putCells (Value.int .i64) 0 (sortI l).toArray cs0) 3 (0, 0))], ⟨by unfold intsV; simp, .inr ⟨gt, cap, _, by rw [hsl], rfl, by omega, hmax, by rw [Nat.mul_one]; exact hcsz, ?_⟩⟩, ⟨?_, ?_⟩, hU.then_ hUs (fun x hx => by simp at hx; subst hx; exact hgW), fun p hp => ?_⟩
  · apply List.ext_getElem?
    intro t
    unfold intsV
    rw [Nat.mul_one, List.getElem?_map]
    by_cases ht : t < (sortI l).length
    · rw [List.getElem?_take, if_pos ht, List.getElem?_eq_getElem ht]
      have h1 : t < cs0.size := by rw [hsz0]; omega
      have hs2 : t < (sortI l).toArray.size := by simpa using ht
      rw [Array.getElem?_toList]
      unfold putCells
      rw [Array.getElem?_mapIdx, Array.getElem?_eq_getElem h1, Option.map_some, if_pos ⟨Nat.zero_le _, by omega⟩, Nat.sub_zero, getElem!_pos _ t hs2]
      simp
    · rw [List.getElem?_eq_none (by rw [List.length_take]; omega), List.getElem?_eq_none (by omega)]; rfl
  · rw [List.map_append, List.nodup_append]
    exact ⟨by simp, hF.1, fun a ha b hb he => by
      obtain ⟨p, hp, rfl⟩ := List.mem_map.1 hb
      simp at ha
      exact hnd p hp (by rw [← he, ha])⟩
  · intro p hp
    rcases List.mem_append.1 hp with hp | hp
    · rw [List.mem_singleton] at hp; subst hp; exact hheap
    · rw [hother p.1 (hF.lt hp) (hnd p hp)]; exact hF.2 p hp
  · rw [List.mem_singleton] at hp; subst hp; exact hgW
/-- one number onto a row -/
theorem st_pushH {v : Value} {l : List Int} {hr : List (Nat × Obj)} (hrow : RowH 3 1 v l.length (intsV .i64 l) hr) (hO : Owns w (hr ++ F)) (hU : Upd W w ks) (hm : ∀ p ∈ hr, p.1 ∈ ks ∨ W.heap.size ≤ p.1) (hl : l.length ≤ 1000000000) (x : Int)
    (hk : ∀ v' hr' w', RowH 3 1 v' (l ++ [x]).length (intsV .i64 (l ++ [x])) hr' → Owns w' (hr' ++ F) → Upd W w' ks → (∀ p ∈ hr', p.1 ∈ ks ∨ W.heap.size ≤ p.1) → K v' w') :
    (std Tryz.prog).step (sBuildSlice 44 1 [(0, .int .i64 x)]) w fun u w => (std Tryz.prog).step (sBuiltin .append #[44, 44] 44 [false, false] [v, u]) w K := by
  refine st_newRow (fun w => row_int x w) hU hO ?_
  intro gr w1 hU1 hO1 hgr
  obtain ⟨inf, e1, e2, e3, e4⟩ := info_int
  have hP : Owns w1 (hr ++ ((gr, .cells #[.int .i64 x] 3 (0, 0)) :: F)) := hO1.perm (by
    classical
    refine List.perm_iff_count.2 fun y => ?_
    simp only [List.count_cons, List.count_append]
    omega)
  have hrd : Rd w1 1 (.slice (some ⟨gr, 0, none⟩) 1 1) 1 (intsV .i64 [x]) := ⟨_, 1, rfl, Nat.le_refl _, rfl, fun j u hu => ⟨_, rfl, cells_read (cs := #[.int .i64 x]) (hO1.at_ 0 rfl) j u hu⟩⟩
  have hmx : (1000000001 : Nat) ≤ maxLen := by decide
  refine st_append u44 e1 e2 e3 e4 rfl (by omega) hrow hP hU1 hm hrd (intsV_one _ _) (by omega) (by omega) ?_
  intro v2 w2 hr2 hrow2 hO2 hU2 hm2
  have hrow2 : RowH 3 1 v2 (l ++ [x]).length (intsV .i64 (l ++ [x])) hr2 := by
    rw [List.length_append, List.length_singleton]
    have : intsV .i64 (l ++ [x]) = intsV .i64 l ++ intsV .i64 [x] := by simp [intsV]
    rw [this]; exact hrow2
  exact hk v2 hr2 w2 hrow2 (hO2.sub (List.Sublist.append_left (List.sublist_cons_self ..) _)) hU2 hm2
theorem Leads_spec {E : List (Ed × Unit)} {bg bm : Nat} {om : Obj} (hm : MapO keyE uV E om) (hE : E.length ≤ 900000000) (hU : Upd W w ks) (hO : Owns w F) (hg : (bg, grO bm) ∈ F) (hbm : (bm, om) ∈ F) (a c : Int) :
    CallsR Tryz.prog 92 #[.pointer (some ⟨bg, 0, none⟩), .int .i64 a, .int .i64 c] w fun u w' => ∃ r : Bool, u = .bool r ∧ (r = true ↔ Path (eK E) a c) ∧ Upd W w' ks ∧ Owns w' F := by
  apply graph_Graph_int_Leads_sound
  unfold graph_Graph_int_Leads_x
  refine st_call (reached_spec hm hE hU hO hg hbm a) ?_
  rintro _ w1 ⟨b, o, la, rfl, hmA, hk1, hkey, hlen, hU1, hO1, hb⟩
  rw [step_run (run_lookup (ve := uV) uAll keyI_ok ze4 (hO1.at_ 0 rfl) hmA c false), if_neg (by decide)]
  have hval : ((aGet la c).map uV).getD (.bool false) = .bool (aGet la c).isSome := by cases aGet la c <;> rfl
  rw [hval]
  exact ⟨_, rfl, by rw [aGet_keys]; exact hkey c, hU1, hO1.sub (List.sublist_cons_self ..)⟩
def RingPost (W : World) (ks : List Nat) (F : List (Nat × Obj)) (E : List Ed) (n : Nat) (a : Int) (u : Value) (w' : World) : Prop :=
  ∃ L hl, RowH 3 1 u L.length (intsV .i64 L) hl ∧ Owns w' (hl ++ F) ∧ Upd W w' ks ∧ (∀ p ∈ hl, p.1 ∈ ks ∨ W.heap.size ≤ p.1) ∧ L.Pairwise (· < ·) ∧ (∀ b, b ∈ L ↔ Path E a b ∧ Path E b a) ∧ L.length ≤ n
theorem Ring_spec {E : List (Ed × Unit)} {bg bm : Nat} {om : Obj} (hm : MapO keyE uV E om) (hE : E.length ≤ 900000000) (hU : Upd W w ks) (hO : Owns w F) (hg : (bg, grO bm) ∈ F) (hbm : (bm, om) ∈ F) (a : Int) :
    CallsR Tryz.prog 68 #[.pointer (some ⟨bg, 0, none⟩), .int .i64 a] w fun u w' => RingPost W ks F (eK E) E.length a u w' := by
  apply graph_Graph_int_Ring_sound
  unfold graph_Graph_int_Ring_x
  refine st_call (reached_spec hm hE hU hO hg hbm a) ?_
  rintro _ w1 ⟨bs, os, ls, rfl, hmS, hk1, hkey, hlen, hU1, hO1, hbs⟩
  refine st_range uAll hU1 hO1 0 rfl hmS ?_
  intro r w2 ob hI hU2 hO2 hr
  let I : Nat → List Value → World → Prop := fun k vs w' => ∃ left ob L hl, left.length = k ∧ IterH keyI uV bs os left ob ∧ RowH 3 1 (vs.getD 1 undef) L.length (intsV .i64 L) hl ∧ Owns w' (hl ++ ((r, ob) :: (bs, os) :: F)) ∧ Upd W w' ks ∧ (∀ p ∈ hl, p.1 ∈ ks ∨ W.heap.size ≤ p.1) ∧ (L ++ keysOf left).Nodup ∧ L.length + left.length ≤ E.length ∧ (∀ b, b ∈ L → Path (eK E) a b ∧ Path (eK E) b a) ∧ (∀ b, Path (eK E) a b → Path (eK E) b a → b ∈ L ∨ b ∈ keysOf left) ∧ (∀ b ∈ keysOf left, Path (eK E) a b)
  refine st_loop (fun vs w' => ∃ k, I k vs w') (minK I) ⟨_, ls, ob, [], [], rfl, hI, RowH.nil_ _ _, hO2, hU2, fun p hp => (by cases hp), hk1, by simpa using hlen, fun b hb => (by cases hb), fun b h1 _ => .inr ((hkey b).2 h1), fun b hb => (hkey b).1 hb⟩ ?_
  rintro dv vs w3 - hex
  obtain ⟨⟨left, ob3, L, hl, hk, hI3, hrow, hO3, hU3, hmn, hnd, hln, hsd, hcp, hlf⟩, -⟩ := minK_spec hex
  generalize minK I vs w3 = k at hk
  clear hex
  have hO3' : Owns w3 ((r, ob3) :: (bs, os) :: (hl ++ F)) := hO3.perm (by
    classical
    refine List.perm_iff_count.2 fun y => ?_
    simp only [List.count_cons, List.count_append]
    omega)
  refine st_next hU3 hO3' 0 rfl 1 rfl hI3 (.inr hr) ?_ ?_
  · rintro rfl
    rw [px_ext1]
    simp only [BX]
    unfold graph_Graph_int_Ring_k1
    refine st_call (SortN_spec hrow (by omega) (hO3.sub (List.Sublist.append_left (.cons _ (.cons _ (List.Sublist.refl _))) _)) hU3 hmn) ?_
    rintro _ w4 ⟨h', hr4, hO4, hU4, hm4⟩
    refine ⟨sortI L, h', hr4, hO4, hU4, hm4, sortI_lt (by simpa using hnd), fun b => ?_, by rw [(sortI_perm L).length_eq]; simpa using hln⟩
    rw [(sortI_perm L).mem_iff]
    exact ⟨hsd b, fun ⟨h1, h2⟩ => (hcp b h1 h2).elim id fun h => (by cases h)⟩
  · intro e left' w4 ob4 hperm hI4 hent hU4 hO4
    have hO4 : Owns w4 ((r, ob4) :: (bs, os) :: (hl ++ F)) := hO4
    have hlen2 := hperm.length_eq
    simp only [List.length_cons] at hlen2
    have hpk : (e.1 :: keysOf left').Perm (keysOf left) := hperm.map (fun p : Int × Unit => p.1)
    simp only [PX, BX]
    rw [step_run (hent w4 (hO4.at_ 0 rfl) (hO4.at_ 1 rfl))]
    simp only [PX, BX]
    refine st_call (Leads_spec hm hE hU4 hO4 (List.mem_cons_of_mem _ (List.mem_cons_of_mem _ (List.mem_append_right _ hg))) (List.mem_cons_of_mem _ (List.mem_cons_of_mem _ (List.mem_append_right _ hbm))) e.1 a) ?_
    rintro _ w5 ⟨rb, rfl, hrb, hU5, hO5⟩
    have hO5' : Owns w5 (hl ++ ((r, ob4) :: (bs, os) :: F)) := hO5.perm (by
      classical
      refine List.perm_iff_count.2 fun y => ?_
      simp only [List.count_cons, List.count_append]
      omega)
    have hnd' : (L ++ e.1 :: keysOf left').Nodup := ((hpk.append_left L).nodup_iff).2 hnd
    rw [bool_var]
    refine ⟨fun hT => ?_, fun hF => ?_⟩
    · refine st_pushH hrow hO5' hU5 hmn (by omega) e.1 ?_
      intro v' hr' w6 hrow6 hO6 hU6 hm6
      refine minK_go (I := I) (k' := left'.length) ⟨left', ob4, L ++ [e.1], hr', rfl, hI4, hrow6, hO6, hU6, hm6, by rw [List.append_assoc]; exact hnd', by rw [List.length_append, List.length_singleton]; omega, fun b hb => ?_, fun b h1 h2 => ?_, fun b hb => hlf b (hpk.mem_iff.1 (List.mem_cons_of_mem _ hb))⟩ (by omega)
      · rcases List.mem_append.1 hb with hb | hb
        · exact hsd b hb
        · rw [List.mem_singleton] at hb
          subst hb
          exact ⟨hlf _ (hpk.mem_iff.1 (List.mem_cons_self ..)), hrb.1 hT⟩
      · rcases hcp b h1 h2 with h | h
        · exact .inl (List.mem_append_left _ h)
        · rcases List.mem_cons.1 (hpk.mem_iff.2 h) with h | h
          · exact .inl (List.mem_append_right _ (by rw [h]; exact List.mem_singleton.2 rfl))
          · exact .inr h
    · refine minK_go (I := I) (k' := left'.length) ⟨left', ob4, L, hl, rfl, hI4, hrow, hO5', hU5, hmn, hnd'.sublist (List.Sublist.append_left (List.sublist_cons_self ..) _), by omega, hsd, fun b h1 h2 => ?_, fun b hb => hlf b (hpk.mem_iff.1 (List.mem_cons_of_mem _ hb))⟩ (by omega)
      rcases hcp b h1 h2 with h | h
      · exact .inl h
      · rcases List.mem_cons.1 (hpk.mem_iff.2 h) with h | h
        · rw [h] at h2; exact absurd (hrb.2 h2) (by rw [hF]; exact Bool.false_ne_true)
        · exact .inr h
end
end Go.Proofs.YtakifgecgmdjcaaGreat

/- Graphs: victims; the victim of a table. -/
namespace Go.Proofs.YtakifgecgmdjcaaGreat
open Go Xf Go.RowKit
set_option linter.unusedVariables false
set_option linter.unusedSimpArgs false
set_option maxRecDepth 100000

theorem Path.mono {E E' : List Ed} (h : ∀ e ∈ E, e ∈ E') {a b : Int} (p : Path E a b) : Path E' a b := by
  induction p with
  | one hm => exact .one (h _ hm)
  | more _ hm ih => exact .more ih (h _ hm)
theorem Path.congr {E E' : List Ed} (h : ∀ e, e ∈ E ↔ e ∈ E') (a b : Int) : Path E a b ↔ Path E' a b := ⟨.mono fun e he => (h e).1 he, .mono fun e he => (h e).2 he⟩
theorem Path.trans {E : List Ed} {a b c : Int} (p : Path E a b) (q : Path E b c) : Path E a c := by
  induction q with
  | one hm => exact .more p hm
  | more _ hm ih => exact .more ih hm
theorem Path.cons_ {E : List Ed} {a b c : Int} (h : (a, b) ∈ E) (q : Path E b c) : Path E a c := (Path.one h).trans q
/-- the ring of a thing -/
def RingL (E : List Ed) (a : Int) (L : List Int) : Prop := L.Pairwise (· < ·) ∧ ∀ b, b ∈ L ↔ Path E a b ∧ Path E b a
def vicV (L : List Int) : Value := .tuple #[.int .i64 (L.getLast?.getD 0), .bool (!L.isEmpty)]
section
variable {W w w' : World} {ks : List Nat} {F : List (Nat × Obj)} {K : Value → World → Prop}
theorem gVictim_spec {E : List (Ed × Unit)} {bg bm : Nat} {om : Obj} (hm : MapO keyE uV E om) (hE : E.length ≤ 900000000) (hU : Upd W w ks) (hO : Owns w F) (hg : (bg, grO bm) ∈ F) (hbm : (bm, om) ∈ F) (a : Int) :
    CallsR Tryz.prog 47 #[.pointer (some ⟨bg, 0, none⟩), .int .i64 a] w fun u w' => ∃ L, u = vicV L ∧ RingL (eK E) a L ∧ Upd W w' ks ∧ Owns w' F := by
  apply graph_Graph_int_Victim_sound
  unfold graph_Graph_int_Victim_x
  refine st_call (Ring_spec hm hE hU hO hg hbm a) ?_
  rintro v w1 ⟨L, hl, hr, hO1, hU1, -, hlt, hmem, hlen⟩
  have hrd := hr.rd hO1
  have hOF := hO1.sub (List.sublist_append_right hl F)
  obtain ⟨A, c, rfl⟩ := RowH.sl' hr
  have hc : L.length ≤ c := by
    obtain ⟨A', c', h1, h2, -⟩ := hrd
    injection h1 with _ _ h3
    omega
  simp (disch := first | assumption | omega) only [PX, BX]
  refine ⟨fun h0 => ⟨[], ?_, ⟨List.Pairwise.nil, fun b => ?_⟩, hU1, hOF⟩, fun h0 => ?_⟩
  · rfl
  · rw [← hmem]
    have : L = [] := List.eq_nil_of_length_eq_zero (by omega)
    rw [this]
  · have hpos : 0 < L.length := by omega
    obtain ⟨A', c', h1, -, -, hx⟩ := hrd
    injection h1 with q1 q2 q3
    subst q1 q3
    obtain ⟨a', rfl, ha⟩ := hx (L.length - 1) (.int .i64 L[L.length - 1]) (by unfold intsV; simp [List.getElem?_eq_getElem (show L.length - 1 < L.length by omega)])
    have e : ((L.length : Nat) : Int) - 1 = ((L.length - 1 : Nat) : Int) := by omega
    have hlt' : L.length - 1 < L.length := by omega
    simp (disch := first | assumption | omega) only [PX, LX, w64, e, Nat.mul_one]
    refine ⟨L, ?_, ⟨hlt, hmem⟩, hU1, hOF⟩
    unfold vicV
    have hne : L ≠ [] := fun h => by rw [h] at hpos; exact absurd hpos (by decide)
    rw [List.getLast?_eq_some_getLast hne, List.getLast_eq_getElem hne]
    have : L.isEmpty = false := by cases L; exact absurd rfl hne; rfl
    rw [this]; rfl
theorem build_grf (b : Nat) (w : World) : (sBuild 127 [(0, .map (some b))]).run Tryz.prog w = .ok (.value (.agg #[.map (some b)])) w := by kernel_rfl
theorem gNew_spec (hU : Upd W w ks) (hO : Owns w F) : CallsR Tryz.prog 45 #[] w fun u w' => ∃ bg bm, u = .pointer (some ⟨bg, 0, none⟩) ∧ Upd W w' ks ∧ Owns w' ((bm, .map #[] 0) :: (bg, grO bm) :: F) ∧ W.heap.size ≤ bm ∧ W.heap.size ≤ bg := by
  apply graph_New_int_sound
  unfold graph_New_int_x
  refine st_makeMap hU hO ?_
  intro bm w1 hU1 hO1 hbm
  rw [step_run (build_grf bm w1)]
  refine st_box hU1 hO1 ?_
  intro bg w2 hU2 hO2 hbg
  exact ⟨bg, bm, rfl, hU2, hO2.perm (List.Perm.swap ..), hbm, hbg⟩
theorem build_ged (x y : Int) (w : World) : (sBuild 129 [(0, .int .i64 x), (1, .int .i64 y)]).run Tryz.prog w = .ok (.value (keyE (x, y))) w := by kernel_rfl
theorem gAdd_spec {E : List (Ed × Unit)} {bg bm : Nat} {om : Obj} (hm : MapO keyE uV E om) (hU : Upd W w ks) (hO : Owns w ((bm, om) :: (bg, grO bm) :: F)) (hb : W.heap.size ≤ bm) (x y : Int) :
    CallsR Tryz.prog 46 #[.pointer (some ⟨bg, 0, none⟩), .int .i64 x, .int .i64 y] w fun u w' => ∃ om', MapO keyE uV (aSet E (x, y) ()) om' ∧ Upd W w' ks ∧ Owns w' ((bm, om') :: (bg, grO bm) :: F) := by
  apply graph_Graph_int_Add_sound
  unfold graph_Graph_int_Add_x
  have c0 : w.cell? ⟨bg, 0, none⟩ = some (.map (some bm)) := (cell_at (hO.at_ 1 rfl)).trans rfl
  simp (disch := first | assumption | omega) only [PX, BX, LX, add_mk, Nat.reduceAdd]
  rw [st_mapLen uGraphMap (hO.at_ 0 rfl) hm]
  simp (disch := first | assumption | omega) only [PX, BX, LX, add_mk, Nat.reduceAdd]
  rw [step_run (build_ged x y w)]
  refine st_mapUpdate (ve := uV) uGraphMap keyE_ok hU hO 0 rfl hm (.inr hb) (x, y) () ?_
  intro w1 om1 hm1 hU1 hO1
  have hO1 : Owns w1 ((bm, om1) :: (bg, grO bm) :: F) := hO1
  have d0 : w1.cell? ⟨bg, 0, none⟩ = some (.map (some bm)) := (cell_at (hO1.at_ 1 rfl)).trans rfl
  simp (disch := first | assumption | omega) only [PX, BX, LX, add_mk, Nat.reduceAdd]
  rw [st_mapLen uGraphMap (hO1.at_ 0 rfl) hm1]
  simp (disch := first | assumption | omega) only [PX, BX, LX, add_mk, Nat.reduceAdd]
  exact ⟨om1, hm1, hU1, hO1⟩
theorem Victim_spec {g : Nat} {T : Tb} {B : Nat} (h : TbAt W ks F T g w) (hfine : Fine T B) (hB5 : B ≤ 500) (x : Int) :
    CallsR Tryz.prog 16 #[.pointer (some ⟨g, 0, none⟩), .int .i64 x] w fun u w' => ∃ E L, (∀ e, e ∈ E ↔ EdgeT T e) ∧ u = vicV L ∧ RingL E x L ∧ TbAt W ks F T g w' := by
  apply lock_Table_Victim_sound
  unfold lock_Table_Victim_x
  obtain ⟨hU, hh, hTb, hO, hmine⟩ := h
  refine st_call (gNew_spec hU hO) ?_
  rintro _ w1 ⟨bg, bm, rfl, hU1, hO1, hbm, hbg⟩
  have hT1 : TbAt W ks ((bm, .map #[] 0) :: (bg, grO bm) :: F) T g w1 := ⟨hU1, hh, hTb, hO1.perm (by
    classical
    refine List.perm_iff_count.2 fun y => ?_
    simp only [List.count_cons, List.count_append]
    omega), hmine⟩
  refine st_call (Edges_spec hT1 hfine hB5) ?_
  rintro v w2 ⟨Es, ⟨hl, hr, ⟨hU2, hh2, hTb2, hO2, hmine2⟩, -⟩, -, hEs, hEl⟩
  have hlen2 : Es.length ≤ 1000000000 := by omega
  obtain ⟨A, c, rfl⟩ := RowH.sl' hr
  simp (disch := first | assumption | omega) only [PX, BX]
  refine st_loop (fun vs w' => ∃ (i : Nat) (E : List (Ed × Unit)) (om : Obj), i ≤ Es.length ∧ vs.getD 1 undef = .int .i64 i ∧ MapO keyE uV E om ∧ Upd W w' ks ∧ Owns w' ((bm, om) :: (bg, grO bm) :: (hl ++ (hh2 ++ F))) ∧ E.length ≤ i ∧ ∀ e, e ∈ eK E ↔ e ∈ Es.take i) (fun vs _ => Es.length - (intOf (vs.getD 1 undef)).toNat) ⟨0, [], _, Nat.zero_le _, rfl, MapO.nil _ _, hU2, hO2.perm ?_, Nat.le_refl _, fun e => by simp⟩ ?_
  · classical
    refine List.perm_iff_count.2 fun y => ?_
    simp only [List.count_cons, List.count_append]
    omega
  rintro dv vs w3 - ⟨i, E, om, hi, e1, hmE, hU3, hO3, hEi, hEm⟩
  simp (disch := first | assumption | omega) only [e1, PX, BX]
  refine ⟨fun hlt => ?_, fun hge => ?_⟩
  rotate_left
  · obtain rfl : i = Es.length := by omega
    rw [List.take_length] at hEm
    unfold lock_Table_Victim_k1
    refine st_call (gVictim_spec (bm := bm) hmE (by omega) hU3 hO3 (by simp) (by simp) x) ?_
    rintro _ w4 ⟨L, rfl, hR, hU4, hO4⟩
    unfold vicV
    simp (disch := first | assumption | omega) only [PX]
    refine ⟨eK E, L, fun e => (hEm e).trans (hEs e), rfl, hR, hU4, hh2, hTb2, hO4.sub (.cons _ (.cons _ (List.sublist_append_right _ _))), hmine2⟩
  have hi' : i < Es.length := by omega
  have hOr : Owns w3 (hl ++ ((bm, om) :: (bg, grO bm) :: (hh2 ++ F))) := hO3.perm (by
    classical
    refine List.perm_iff_count.2 fun y => ?_
    simp only [List.count_cons, List.count_append]
    omega)
  obtain ⟨a, c', he, hc⟩ := ed_at (RowH.ed hr hOr hlen2) hi'
  injection he with q1 q2 q3
  subst q1
  simp (disch := first | assumption | omega) only [PX]
  rw [step_run (run_sLoad (hc w3 (Upd.refl w3 [])))]
  refine st_alloc ze78 hU3 hO3 ?_
  intro b8 w4 hU4 hO4 hb8
  refine st_storeN (vs := edV Es[i]) (by rw [sz78]; rfl) hU4 hO4 0 rfl (by show 0 + 2 ≤ 2; decide) (fun u hu => by simp [edV] at hu; rcases hu with rfl | rfl <;> rfl) (.inr hb8) ?_
  intro w5 hU5 hO5
  have hO5 : Owns w5 ((b8, .cells (edV Es[i]).toArray 78 (0, 0)) :: (bm, om) :: (bg, grO bm) :: (hl ++ (hh2 ++ F))) := hO5
  have c0 : w5.cell? ⟨b8, 0, none⟩ = some (.int .i64 Es[i].1) := (cell_at (hO5.at_ 0 rfl)).trans rfl
  have c1 : w5.cell? ⟨b8, 1, none⟩ = some (.int .i64 Es[i].2) := (cell_at (hO5.at_ 0 rfl)).trans rfl
  simp (disch := first | assumption | omega) only [PX, BX, LX, add_mk, Nat.reduceAdd]
  refine st_call (gAdd_spec hmE hU5 (hO5.sub (List.sublist_cons_self ..)) hbm Es[i].1 Es[i].2) ?_
  rintro _ w6 ⟨om6, hm6, hU6, hO6⟩
  simp (disch := first | assumption | omega) only [e1, PX, w64]
  refine ⟨⟨i + 1, _, om6, by omega, rfl, hm6, hU6, hO6, ?_, fun e => ?_⟩, ?_⟩
  · rw [aSet_length]; split <;> omega
  · rw [List.take_succ_eq_append_getElem hi', List.mem_append, List.mem_singleton, ← hEm e]
    unfold eK
    rw [aSet_keys]
    exact ⟨fun h => h.elim .inr .inl, fun h => h.elim .inr .inl⟩
  · simp only [List.getD_cons_succ, List.getD_cons_zero, intOf]; omega
end
end Go.Proofs.YtakifgecgmdjcaaGreat

/- Locks: are two lists the same? -/
namespace Go.Proofs.YtakifgecgmdjcaaGreat
open Go Xf Go.RowKit
set_option linter.unusedVariables false
set_option linter.unusedSimpArgs false
set_option maxRecDepth 100000

theorem eqIn_he (a b : He) (w : World) : (Op.equalIn 10000 104 (.agg (heV a).toArray) (.agg (heV b).toArray)).run Tryz.prog w = .ok (decide (a = b)) w := by
  have u3 := Tryz.underlying29
  have a3 := Tryz.isAgg29
  have z3 := Tryz.sizeOf29
  have u9 := Tryz.underlying9
  have a9 := Tryz.isAgg9
  have z9 := Tryz.sizeOf9
  have hS : Tryz.prog.underlying 104 = some (.struct (Tryz.prog.fieldsOf 104)) := by kernel_rfl
  have hp : Tryz.prog.stoodInHeld 104 = false := by kernel_rfl
  have he : ((⟨a.1.toArray⟩ : ByteArray) == ⟨b.1.toArray⟩ && a.2 == b.2) = decide (a = b) := by
    rw [bytes_beq]
    obtain ⟨a1, a2⟩ := a
    obtain ⟨b1, b2⟩ := b
    by_cases h1 : a1 = b1 <;> by_cases h2 : a2 = b2 <;> simp [h1, h2]
  rw [← he]
  simp only [heV, strV]
  rw [show (10000 : Nat) = 9999 + 1 from rfl, run_equalIn_agg w 9999 104 _ _ hS hp]
  simp only [Program.fieldsOf, Tryz.underlying104]
  go_simp
  by_cases h1 : a.fst = b.fst <;> by_cases h2 : a.snd = b.snd <;> simp [h1, h2, Prod.ext_iff]
theorem hm_he : Tryz.prog.eqGuardType Tryz.prog.depth 104 = false := by kernel_rfl
theorem ne_he (x y : Operand) (a b : He) (w : World) : (sBin .neq 104 x y (.agg (heV a).toArray) (.agg (heV b).toArray)).run Tryz.prog w = .ok (.value (.bool (!decide (a = b)))) w := by
  simp only [sBin, run_sV, Sem.run_bind, run_eqGuard_agg w .neq 104 x y _ _ hm_he, Result.andThen_ok, run_neq_struct, eqIn_he]
section
variable {w : World}
theorem he_load {v : Value} {l : List He} {i : Nat} (hr : RdS w heV 2 v l) (hi : i < l.length) : ∃ a c, v = .slice (some a) l.length c ∧ ∀ w', Upd w w' [] → (loadVar 104 (a.add (i * 2))).run Tryz.prog w' = .ok (.agg (heV l[i]).toArray) w' := by
  obtain ⟨A, c, rfl, hm, hrd⟩ := hr
  obtain ⟨a, rfl, hx⟩ := Rd.row (f := heV) (k := 2) (fun _ => rfl) (by omega) hrd hi
  have e : ((i : Nat) : Int).toNat = i := by omega
  rw [e] at hx
  exact ⟨a, c, rfl, fun w' hU => run_loadVarN (cs := heV l[i]) ag104 (by rw [sz104]; rfl) fun j v hj => by rw [add_add']; exact hx w' hU j v hj⟩
theorem sameEdges_spec {v1 v2 : Value} {l : List Ed} (h1 : RdS w edV 2 v1 l) (h2 : RdS w edV 2 v2 l) (hl : l.length ≤ 1000000000) :
    CallsR Tryz.prog 11 #[v1, v2] w fun u w' => u = .bool true ∧ Upd w w' [] := by
  apply flotillalaw13_sameEdges_sound
  unfold flotillalaw13_sameEdges_x flotillalaw13_sameEdges_k1
  obtain ⟨A1, c1, rfl, -⟩ := id h1
  obtain ⟨A2, c2, rfl, -⟩ := id h2
  simp (disch := first | assumption | omega) only [PX, BX]
  refine ⟨fun h => absurd rfl h, fun _ => ?_⟩
  refine st_loop (fun vs w' => ∃ i : Nat, i ≤ l.length ∧ vs.getD 1 undef = .int .i64 i ∧ Upd w w' []) (fun vs _ => l.length - (intOf (vs.getD 1 undef)).toNat) ⟨0, Nat.zero_le _, rfl, Upd.refl _ _⟩ ?_
  rintro dv vs w1 - ⟨i, hi, e1, hU⟩
  simp (disch := first | assumption | omega) only [e1, PX, BX]
  refine ⟨fun hlt => ?_, fun hge => ⟨trivial, hU⟩⟩
  have hi' : i < l.length := by omega
  obtain ⟨a1, c1', q1, hc1⟩ := ed_at h1 hi'
  injection q1 with q1; subst q1
  obtain ⟨a2, c2', q2, hc2⟩ := ed_at h2 hi'
  injection q2 with q2; subst q2
  have hUd := hU.trans (Upd.drew w1 [])
  have hne : ∃ w', (fun w' => Upd w w' []) w' := ⟨_, hUd⟩
  refine st_draw (fun w' => Upd w w' []) hUd ?_
  simp (disch := first | exact hne | assumption | omega) only [SX]
  rw [stepS_run hne fun w' hs => run_sLoad (hc1 w' hs), stepS_run hne fun w' hs => run_sLoad (hc2 w' hs), stepS_run hne fun w' hs => ne_ed _ _ _ _ _, bool_var]
  refine ⟨fun h => by simp at h, fun _ => ?_⟩
  simp (disch := omega) only [PX, w64]
  refine ⟨⟨i + 1, by omega, rfl, hUd⟩, ?_⟩
  simp only [List.getD_cons_succ, List.getD_cons_zero, intOf]; omega
theorem sameHeld_spec {v1 v2 : Value} {l : List He} (h1 : RdS w heV 2 v1 l) (h2 : RdS w heV 2 v2 l) (hl : l.length ≤ 1000000000) :
    CallsR Tryz.prog 25 #[v1, v2] w fun u w' => u = .bool true ∧ Upd w w' [] := by
  apply flotillalaw13_sameHeld_sound
  unfold flotillalaw13_sameHeld_x flotillalaw13_sameHeld_k1
  obtain ⟨A1, c1, rfl, -⟩ := id h1
  obtain ⟨A2, c2, rfl, -⟩ := id h2
  simp (disch := first | assumption | omega) only [PX, BX]
  refine ⟨fun h => absurd rfl h, fun _ => ?_⟩
  refine st_loop (fun vs w' => ∃ i : Nat, i ≤ l.length ∧ vs.getD 1 undef = .int .i64 i ∧ Upd w w' []) (fun vs _ => l.length - (intOf (vs.getD 1 undef)).toNat) ⟨0, Nat.zero_le _, rfl, Upd.refl _ _⟩ ?_
  rintro dv vs w1 - ⟨i, hi, e1, hU⟩
  simp (disch := first | assumption | omega) only [e1, PX, BX]
  refine ⟨fun hlt => ?_, fun hge => ⟨trivial, hU⟩⟩
  have hi' : i < l.length := by omega
  obtain ⟨a1, c1', q1, hc1⟩ := he_load h1 hi'
  injection q1 with q1; subst q1
  obtain ⟨a2, c2', q2, hc2⟩ := he_load h2 hi'
  injection q2 with q2; subst q2
  have hUd := hU.trans (Upd.drew w1 [])
  have hne : ∃ w', (fun w' => Upd w w' []) w' := ⟨_, hUd⟩
  refine st_draw (fun w' => Upd w w' []) hUd ?_
  simp (disch := first | exact hne | assumption | omega) only [SX]
  rw [stepS_run hne fun w' hs => run_sLoad (hc1 w' hs), stepS_run hne fun w' hs => run_sLoad (hc2 w' hs), stepS_run hne fun w' hs => ne_he _ _ _ _ _, bool_var]
  refine ⟨fun h => by simp at h, fun _ => ?_⟩
  simp (disch := omega) only [PX, w64]
  refine ⟨⟨i + 1, by omega, rfl, hUd⟩, ?_⟩
  simp only [List.getD_cons_succ, List.getD_cons_zero, intOf]; omega
theorem Same_spec {v1 v2 : Value} {l : List Int} (h1 : Rd w 1 v1 l.length (intsV .i64 l)) (h2 : Rd w 1 v2 l.length (intsV .i64 l)) (hl : l.length ≤ 1000000000) :
    CallsR Tryz.prog 24 #[v1, v2] w fun u w' => u = .bool true ∧ Upd w w' [] := by
  apply flotillaref12_Same_sound
  unfold flotillaref12_Same_x flotillaref12_Same_k1
  obtain ⟨A1, c1, rfl, -⟩ := id h1
  obtain ⟨A2, c2, rfl, -⟩ := id h2
  simp (disch := first | assumption | omega) only [PX, BX]
  refine ⟨fun h => absurd rfl h, fun _ => ?_⟩
  refine st_loop (fun vs w' => ∃ i : Nat, i ≤ l.length ∧ vs.getD 1 undef = .int .i64 i ∧ Upd w w' []) (fun vs _ => l.length - (intOf (vs.getD 1 undef)).toNat) ⟨0, Nat.zero_le _, rfl, Upd.refl _ _⟩ ?_
  rintro dv vs w1 - ⟨i, hi, e1, hU⟩
  simp (disch := first | assumption | omega) only [e1, PX, BX]
  refine ⟨fun hlt => ?_, fun hge => ⟨trivial, hU⟩⟩
  have hi' : i < l.length := by omega
  obtain ⟨a1, c1', q1, -⟩ := int_at h1 hi'
  injection q1 with q1; subst q1
  obtain ⟨a2, c2', q2, -⟩ := int_at h2 hi'
  injection q2 with q2; subst q2
  have hc1 : ∀ w', Upd w w' [] → w'.cell? (a1.add i) = some (.int .i64 l[i]) := fun w' hU => by
    obtain ⟨a, c, q, hc⟩ := int_at (h1.mono hU) hi'
    injection q with q; injection q with q; subst q; exact hc
  have hc2 : ∀ w', Upd w w' [] → w'.cell? (a2.add i) = some (.int .i64 l[i]) := fun w' hU => by
    obtain ⟨a, c, q, hc⟩ := int_at (h2.mono hU) hi'
    injection q with q; injection q with q; subst q; exact hc
  have hUd := hU.trans (Upd.drew w1 [])
  have hne : ∃ w', (fun w' => Upd w w' []) w' := ⟨_, hUd⟩
  refine st_draw (fun w' => Upd w w' []) hUd ?_
  simp (disch := first | exact hne | assumption | omega) only [SX, SLX, Nat.mul_one]
  rw [bool_dec]
  refine ⟨fun h => absurd rfl h, fun _ => ?_⟩
  simp (disch := omega) only [PX, w64]
  refine ⟨⟨i + 1, by omega, rfl, hUd⟩, ?_⟩
  simp only [List.getD_cons_succ, List.getD_cons_zero, intOf]; omega
end
end Go.Proofs.YtakifgecgmdjcaaGreat

/- Locks: what a nil table answers. -/
namespace Go.Proofs.YtakifgecgmdjcaaGreat
open Go Xf Go.RowKit
set_option linter.unusedVariables false
set_option linter.unusedSimpArgs false
set_option maxRecDepth 100000

section
variable {w : World}
theorem nAsk_spec (txn : Int) (v : Wt) : CallsR Tryz.prog 21 #[.pointer none, .int .i64 txn, wtV v] w fun u w' => u = .tuple #[.bool false, .int .i64 1] ∧ Upd w w' [] := by
  apply lock_Table_Ask_sound
  unfold lock_Table_Ask_x lock_Table_Ask_k1
  refine st_box (Upd.refl w []) (Owns.nil w) ?_
  intro b w1 hU hO hb
  simp (disch := first | assumption | omega) only [PX, BX]
  exact ⟨trivial, hU⟩
theorem nWaits_spec (x : Int) : CallsR Tryz.prog 17 #[.pointer none, .int .i64 x] w fun u w' => u = .tuple #[wtV ⟨[], 0⟩, .bool false] ∧ Upd w w' [] := by
  apply lock_Table_Waits_sound
  unfold lock_Table_Waits_x
  refine st_alloc ze_want (Upd.refl w []) (Owns.nil w) ?_
  intro b w1 hU hO hb
  simp (disch := first | assumption | omega) only [PX, BX]
  have hbuild : ∀ w : World, (sBuild 31 []).run Tryz.prog w = .ok (.value (wtV ⟨[], 0⟩)) w := fun w => by kernel_rfl
  rw [step_run (hbuild w1)]
  refine st_storeN (vs := [strV [], .int .i64 0]) (by rw [sz31]; rfl) hU hO 0 rfl (by show 0 + 2 ≤ 2; decide) (by simp [Value.oneCell']) (.inr hb) ?_
  intro w2 hU2 hO2
  have hO2 : Owns w2 [wtBx b ⟨[], 0⟩] := hO2
  refine st_loadR (wt_load (hO2.at_ 0 rfl)) ?_
  exact ⟨rfl, hU2⟩
theorem ngone_spec (x : Int) (b : Bool) : CallsR Tryz.prog 48 #[.pointer none, .int .i64 x, .bool b] w fun u w' => u = .slice none 0 0 ∧ Upd w w' [] := by
  apply lock_Table_gone_sound
  unfold lock_Table_gone_x
  simp (disch := first | assumption | omega) only [PX, BX]
  exact ⟨trivial, Upd.refl w []⟩
theorem nFree_spec (x : Int) : CallsR Tryz.prog 18 #[.pointer none, .int .i64 x] w fun u w' => u = .slice none 0 0 ∧ Upd w w' [] := by
  apply lock_Table_Free_sound
  unfold lock_Table_Free_x
  exact st_call (ngone_spec x true) fun _ _ h => h
theorem nCancel_spec (x : Int) : CallsR Tryz.prog 22 #[.pointer none, .int .i64 x] w fun u w' => u = .slice none 0 0 ∧ Upd w w' [] := by
  apply lock_Table_Cancel_sound
  unfold lock_Table_Cancel_x
  exact st_call (ngone_spec x false) fun _ _ h => h
theorem nHeld_spec (x : Int) : CallsR Tryz.prog 23 #[.pointer none, .int .i64 x] w fun u w' => u = .slice none 0 0 ∧ Upd w w' [] := by
  apply lock_Table_Held_sound
  unfold lock_Table_Held_x
  simp (disch := first | assumption | omega) only [PX, BX]
  exact ⟨trivial, Upd.refl w []⟩
theorem nEdges_specO {W : World} {ks : List Nat} {F : List (Nat × Obj)} (hU : Upd W w ks) (hO : Owns w F) : CallsR Tryz.prog 12 #[.pointer none] w fun u w' => u = .slice none 0 0 ∧ Upd W w' ks ∧ Owns w' F := by
  apply lock_Table_Edges_sound
  unfold lock_Table_Edges_x
  refine st_alloc (z := .slice none 0 0) ze39 hU hO ?_
  intro b w1 hU1 hO1 hb
  have c0 : w1.cell? ⟨b, 0, none⟩ = some (.slice none 0 0) := (cell_at (hO1.at_ 0 rfl)).trans rfl
  simp (disch := first | assumption | omega) only [PX, BX]
  refine st_load ag39 c0 ?_
  exact ⟨rfl, hU1, hO1.sub (List.sublist_cons_self ..)⟩
theorem nTxns_spec : CallsR Tryz.prog 15 #[.pointer none] w fun u w' => u = .slice none 0 0 ∧ Upd w w' [] := by
  apply lock_Table_Txns_sound
  unfold lock_Table_Txns_x
  refine st_makeMap (Upd.refl w []) (Owns.nil w) ?_
  intro b w1 hU hO hb
  simp (disch := first | assumption | omega) only [PX, BX]
  exact ⟨trivial, hU⟩
theorem Path.nil_ {a b : Int} : ¬ Path [] a b := fun h => by
  cases h with
  | one h => cases h
  | more _ h => cases h
theorem nVictim_spec (x : Int) : CallsR Tryz.prog 16 #[.pointer none, .int .i64 x] w fun u w' => u = .tuple #[.int .i64 0, .bool false] ∧ Upd w w' [] := by
  apply lock_Table_Victim_sound
  unfold lock_Table_Victim_x
  refine st_call (gNew_spec (Upd.refl w []) (Owns.nil w)) ?_
  rintro _ w1 ⟨bg, bm, rfl, hU1, hO1, hbm, hbg⟩
  refine st_call (nEdges_specO hU1 hO1) ?_
  rintro _ w2 ⟨rfl, hU2, hO2⟩
  simp (disch := first | assumption | omega) only [PX, BX]
  refine st_loop (fun vs w' => vs.getD 1 undef = .int .i64 ((0 : Nat) : Int) ∧ w' = w2) (fun _ _ => 0) ⟨rfl, rfl⟩ ?_
  rintro dv vs w3 - ⟨e1, rfl⟩
  simp (disch := first | assumption | omega) only [e1, PX, BX]
  refine ⟨fun h => absurd h (by omega), fun _ => ?_⟩
  unfold lock_Table_Victim_k1
  refine st_call (gVictim_spec (bm := bm) (MapO.nil _ _) (Nat.zero_le _) hU2 hO2 (by simp) (by simp) x) ?_
  rintro _ w4 ⟨L, rfl, ⟨-, hR⟩, hU4, hO4⟩
  have hL : L = [] := by
    cases L with
    | nil => rfl
    | cons b L => exact absurd ((hR b).1 (List.mem_cons_self ..)).1 Path.nil_
  subst hL
  unfold vicV
  simp (disch := first | assumption | omega) only [PX]
  exact ⟨rfl, hU4⟩
end
end Go.Proofs.YtakifgecgmdjcaaGreat

/- Locks: LockNils. -/
namespace Go.Proofs.YtakifgecgmdjcaaGreat
open Go Xf Go.RowKit
set_option linter.unusedVariables false
set_option linter.unusedSimpArgs false
set_option maxRecDepth 100000

theorem sorted_ext {α : Type} {R : α → α → Prop} (has : ∀ a b, R a b → R b a → False) : ∀ {l1 l2 : List α}, l1.Pairwise R → l2.Pairwise R → (∀ x, x ∈ l1 ↔ x ∈ l2) → l1 = l2
  | [], [], _, _, _ => rfl
  | [], b :: t, _, _, h => absurd ((h b).2 (List.mem_cons_self ..)) (by simp)
  | a :: s, [], _, _, h => absurd ((h a).1 (List.mem_cons_self ..)) (by simp)
  | a :: s, b :: t, h1, h2, h => by
    rw [List.pairwise_cons] at h1 h2
    have hab : a = b := by
      rcases List.mem_cons.1 ((h a).1 (List.mem_cons_self ..)) with e | e
      · exact e
      · rcases List.mem_cons.1 ((h b).2 (List.mem_cons_self ..)) with e' | e'
        · exact e'.symm
        · exact (has _ _ (h1.1 b e') (h2.1 a e)).elim
    subst hab
    rw [sorted_ext has h1.2 h2.2 fun x => ?_]
    have hx := h x
    rw [List.mem_cons, List.mem_cons] at hx
    constructor
    · intro hxs
      rcases hx.1 (.inr hxs) with e | e
      · subst e; exact (has _ _ (h1.1 x hxs) (h1.1 x hxs)).elim
      · exact e
    · intro hxs
      rcases hx.2 (.inr hxs) with e | e
      · subst e; exact (has _ _ (h2.1 x hxs) (h2.1 x hxs)).elim
      · exact e
theorem edLt_as (a b : Ed) (h1 : edLt a b) (h2 : edLt b a) : False := by unfold edLt at *; omega
theorem askT_same {T : Tb} {new : Nat} {txn : Int} {v : Wt} (h : (askT T new txn v).2.2 ≠ 0) : (askT T new txn v).1 = T := by
  unfold askT at h ⊢
  by_cases hok : argsOk txn v
  · rw [if_pos hok] at h ⊢
    by_cases hw : (aGet T.waits txn).isSome = true
    · rw [if_pos hw]
    · rw [if_neg hw] at h; exact absurd rfl h
  · rw [if_neg hok]
section
variable {W w w' : World} {ks : List Nat} {F : List (Nat × Obj)} {T : Tb} {g : Nat}
theorem TbAt.rdEd {l : List Ed} {v : Value} {hl : List (Nat × Obj)} (hr : RowH 78 2 v l.length (edsV l) hl) (h : TbAt W ks F T g w) (hs : ∀ p ∈ hl, p ∈ F) (hlen : l.length ≤ 1000000000) : RdS w edV 2 v l :=
  RowH.ed (F := []) hr ⟨by rw [List.append_nil]; rcases hr.2 with ⟨_, _, rfl⟩ | ⟨g', _, _, _, rfl, _⟩ <;> simp, fun p hp => h.owns.2 p (hs p (by simpa using hp))⟩ hlen
/-- behind the guards -/
theorem Nils_k {B b3 : Nat} {o : LOp} {v82 v84 v88 : Value} {L1 : List Ed} {L2 : List Int} {h1 h2 h3 : List (Nat × Obj)} (hT : TbAt W [] F T g w) (hfine : Fine T B) (hB : B ≤ 400) (ho : okO o) (hb3 : opBx b3 o ∈ F)
    (hr1 : RowH 78 2 v82 L1.length (edsV L1) h1) (hs1 : ∀ p ∈ h1, p ∈ F) (hp1 : L1.Pairwise edLt) (hm1 : ∀ e, e ∈ L1 ↔ EdgeT T e) (hl1 : L1.length ≤ 200000000)
    (hr2 : RowH 3 1 v84 L2.length (intsV .i64 L2) h2) (hs2 : ∀ p ∈ h2, p ∈ F) (hp2 : L2.Pairwise (· < ·)) (hm2 : ∀ x, x ∈ L2 ↔ TxK T x) (hl2 : L2.length ≤ 300000)
    (hr3 : RowH 104 2 v88 (heldT T o.txn).length (hesV (heldT T o.txn)) h3) (hs3 : ∀ p ∈ h3, p ∈ F) :
    (std Tryz.prog).calls 12 #[.pointer (some ⟨g, 0, none⟩)] w fun v105_1 w =>
      (std Tryz.prog).calls 11 #[v105_1, v82] w fun v107_1 w =>
      (std Tryz.prog).bool v107_1
      ((std Tryz.prog).calls 15 #[.pointer (some ⟨g, 0, none⟩)] w fun v111_1 w =>
      (std Tryz.prog).calls 24 #[v111_1, v84] w fun v113_1 w =>
      (std Tryz.prog).bool v113_1
      ((std Tryz.prog).step (sFieldAddr 33 (.pointer (some ⟨b3, 0, none⟩)) 1) w fun v117_1 w =>
      (std Tryz.prog).step (sLoad 3 v117_1) w fun v118_1 w =>
      (std Tryz.prog).calls 23 #[.pointer (some ⟨g, 0, none⟩), v118_1] w fun v119_1 w =>
      (std Tryz.prog).calls 25 #[v119_1, v88] w fun v121_1 w =>
      (std Tryz.prog).bool v121_1
      ((std Tryz.prog).calls 8 #[] w fun v124_1 w =>
      (fun r w' => r = .bool true ∧ Upd W w' []) v124_1 w)
      (flotillalaw13_LockNils_k2 (std Tryz.prog) w fun r w' => r = .bool true ∧ Upd W w' []))
      (flotillalaw13_LockNils_k2 (std Tryz.prog) w fun r w' => r = .bool true ∧ Upd W w' []))
      (flotillalaw13_LockNils_k2 (std Tryz.prog) w fun r w' => r = .bool true ∧ Upd W w' []) := by
  refine st_call (Edges_spec hT hfine (by omega)) ?_
  rintro v w1 ⟨L, ⟨hl, hr, hT1, -⟩, hp, hm, hlen⟩
  obtain rfl : L = L1 := sorted_ext edLt_as hp hp1 fun e => by rw [hm, hm1]
  refine st_call (sameEdges_spec (hT1.rdEd hr (fun p hp => List.mem_append_left _ hp) (by omega)) (hT1.rdEd hr1 (fun p hp => List.mem_append_right _ (hs1 p hp)) (by omega)) (by omega)) ?_
  rintro _ w2 ⟨rfl, hU2⟩
  have hT2 := (hT1.upd hU2).weak (List.sublist_append_right _ _)
  simp only [BX]
  refine st_call (Txns_spec hT2 hfine (by omega)) ?_
  rintro v' w3 ⟨L', ⟨hl', hr', hT3, -⟩, hp', hm', hlen'⟩
  obtain rfl : L' = L2 := sorted_ext (fun a b h1 h2 => by omega) hp' hp2 fun e => by rw [hm', hm2]
  refine st_call (Same_spec (hT3.rdI hr' (fun p hp => List.mem_append_left _ hp)) (hT3.rdI hr2 (fun p hp => List.mem_append_right _ (hs2 p hp))) (by omega)) ?_
  rintro _ w4 ⟨rfl, hU4⟩
  have hT4 := (hT3.upd hU4).weak (List.sublist_append_right _ _)
  obtain ⟨c0, c1, c2, c3⟩ := op_cells (hT4.at_ hb3)
  simp (disch := first | assumption | omega) only [PX, BX, LX, add_mk, Nat.reduceAdd]
  refine st_call (Held_spec hT4 hfine.ok (by omega) o.txn) ?_
  rintro v'' w5 ⟨hl'', hr'', hT5, -⟩
  have hh := heldT_len hfine.ok o.txn
  refine st_call (sameHeld_spec (hT5.rdHe hr'' (fun p hp => List.mem_append_left _ hp) (by omega)) (hT5.rdHe hr3 (fun p hp => List.mem_append_right _ (hs3 p hp)) (by omega)) (by omega)) ?_
  rintro _ w6 ⟨rfl, hU6⟩
  simp only [BX]
  exact Turns_lives (hT5.upd hU6).1 fun w' h => ⟨rfl, h⟩
theorem LockNils_spec (W : World) {v0 : Value} {ops : List LOp} {o : LOp} (h0 : RdS W opV 4 v0 ops) (hops : ∀ o ∈ ops, okO o) (ho : okO o) :
    CallsR Tryz.prog 5 #[v0, .agg (opV o).toArray] W fun r w' => r = .bool true ∧ Upd W w' [] := by
  apply flotillalaw13_LockNils_sound
  unfold flotillalaw13_LockNils_x
  refine st_box (Upd.refl W []) (Owns.nil W) ?_
  intro b3 w0 hU0 hO0 hb3
  have hO0 : Owns w0 [opBx b3 o] := hO0
  have hbuild : ∀ w : World, (sBuild 31 [(0, .string ⟨#[97]⟩), (1, .int .i64 3)]).run Tryz.prog w = .ok (.value (wtV ⟨[97], 3⟩)) w := fun w => by kernel_rfl
  rw [step_run (hbuild w0)]
  refine st_call (nAsk_spec 1 ⟨[97], 3⟩) ?_
  rintro _ w1 ⟨rfl, hU1⟩
  simp (disch := first | assumption | omega) only [PX]
  refine st_call (nWaits_spec 1) ?_
  rintro _ w2 ⟨rfl, hU2⟩
  simp (disch := first | assumption | omega) only [PX]
  refine st_alloc ze_want ((hU0.trans hU1).trans hU2) ((hO0.ext hU1).ext hU2) ?_
  intro b8 w3 hU3 hO3 hb8
  refine st_storeN (vs := [strV [], .int .i64 0]) (by rw [sz31]; rfl) hU3 hO3 0 rfl (by show 0 + 2 ≤ 2; decide) (by simp [Value.oneCell']) (.inr hb8) ?_
  intro w4 hU4 hO4
  have hO4 : Owns w4 [opBx b3 o] := hO4.sub (List.sublist_cons_self ..)
  refine st_call (nVictim_spec 1) ?_
  rintro _ w5 ⟨rfl, hU5⟩
  have w00 : IntKind.wrap .i64 ((0 : Int) + ((0 : Nat) : Int)) = 0 := by decide
  simp (disch := first | assumption | omega) only [PX, BX]
  refine ⟨fun h => absurd rfl h, fun _ => ?_⟩
  refine st_call (nFree_spec 1) ?_
  rintro _ w6 ⟨rfl, hU6⟩
  simp (disch := first | assumption | omega) only [PX, BX, w00]
  refine st_call (nCancel_spec 1) ?_
  rintro _ w7 ⟨rfl, hU7⟩
  simp (disch := first | assumption | omega) only [PX, BX, w00]
  refine st_call (nHeld_spec 1) ?_
  rintro _ w8 ⟨rfl, hU8⟩
  simp (disch := first | assumption | omega) only [PX, BX, w00]
  refine st_call (nEdges_specO ((((hU4.trans hU5).trans hU6).trans hU7).trans hU8) ((((hO4.ext hU5).ext hU6).ext hU7).ext hU8)) ?_
  rintro _ w9 ⟨rfl, hU9, hO9⟩
  simp (disch := first | assumption | omega) only [PX, BX, w00]
  refine st_call nTxns_spec ?_
  rintro _ w10 ⟨rfl, hU10⟩
  simp (disch := first | assumption | omega) only [PX, BX, w00]
  refine ⟨fun h => absurd rfl h, fun _ => ?_⟩
  refine st_call (led_spec h0 (hU9.trans hU10) (hO9.ext hU10)) ?_
  rintro _ w11 ⟨g, T, rfl, hg, hR, hT⟩
  have hfine : Fine T 60 := (hR.fine fun o ho => hops o (List.mem_of_mem_take ho)).mono (List.length_take_le ..)
  simp (disch := first | assumption | omega) only [PX, BX]
  rw [step_run (run_sLoad (op_boxload (hT.at_ (List.mem_cons_self ..))))]
  refine st_call (short_spec o w11) ?_
  rintro _ w12 ⟨rfl, hU12⟩
  have hT2 := hT.upd hU12
  simp (disch := first | assumption | omega) only [PX, BX]
  rw [bool_var]
  refine ⟨fun hs => ?_, fun hs => ?_⟩
  rotate_left
  · exact Turns_lives hT2.1 fun w' h => ⟨rfl, h⟩
  let S : World → Prop := fun w' => w'.cell? ⟨b3, 1, none⟩ = some (.int .i64 o.txn)
  have hS : ∀ {w' : World} {F' : List (Nat × Obj)}, TbAt W [] F' T g w' → opBx b3 o ∈ F' → S w' := fun h hm => (op_cells (h.at_ hm)).2.1
  have hTd := hT2.upd (Upd.drew w12 [])
  have hne : ∃ w', S w' := ⟨_, hS hTd (List.mem_cons_self ..)⟩
  refine st_draw S (hS hTd (List.mem_cons_self ..)) ?_
  have g1 : ∀ w', S w' → w'.cell? ⟨b3, 1, none⟩ = some (.int .i64 o.txn) := fun w' h => h
  simp (disch := first | exact hne | assumption | omega) only [SX, SLX, add_mk, Nat.reduceAdd]
  refine st_call (Edges_spec hTd hfine (by omega)) ?_
  rintro v82 w13 ⟨L1, ⟨h1, hr1, hT3, -⟩, hp1, hm1, hl1⟩
  refine st_same (hS hT3 (by simp)) ?_
  refine st_call (Txns_spec hT3 hfine (by omega)) ?_
  rintro v84 w14 ⟨L2, ⟨h2, hr2, hT4, -⟩, hp2, hm2, hl2⟩
  refine st_same (hS hT4 (by simp)) ?_
  refine st_call (Held_spec hT4 hfine.ok (by omega) o.txn) ?_
  rintro v88 w15 ⟨h3, hr3, hT5, -⟩
  refine st_keepT (fun _ => True) trivial ?_
  have hmem : opBx b3 o ∈ h3 ++ (h2 ++ (h1 ++ [opBx b3 o])) := by simp
  obtain ⟨c0, c1, c2, c3⟩ := op_cells (hT5.at_ hmem)
  simp (disch := first | assumption | omega) only [PX, BX, LX, add_mk, Nat.reduceAdd]
  rw [step_run (run_sLoad (op_boxwant (hT5.at_ hmem)))]
  refine st_call (Ask_spec hT5 _ _ (ask_small hfine.ok (by omega) _) (by unfold shortB at hs; simp at hs; omega)) ?_
  rintro _ w16 ⟨new, rfl, hT6⟩
  have hno := askT_no (T := T) (new := new) (txn := o.txn) (v := o.want)
  have hsm := askT_same (T := T) (new := new) (txn := o.txn) (v := o.want)
  unfold askV
  generalize askT T new o.txn o.want = r at hT6 hno hsm
  obtain ⟨T', got, e⟩ := r
  simp only at hno hsm hT6
  simp (disch := first | assumption | omega) only [PX, BX]
  refine ⟨fun h => Turns_lives hT6.1 fun w' h => ⟨rfl, h⟩, fun he => ?_⟩
  obtain rfl := hsm he
  obtain rfl := hno he
  simp only [BX, Bool.not_false]
  exact Nils_k hT6 hfine (by omega) ho hmem hr1 (fun p hp => by simp [hp]) hp1 hm1 hl1 hr2 (fun p hp => by simp [hp]) hp2 hm2 hl2 hr3 (fun p hp => by simp [hp])
end
end Go.Proofs.YtakifgecgmdjcaaGreat

/- The document's locks: rows in memory. -/
namespace Go.Proofs.YtakifgecgmdjcaaGreat
open Go Xf Go.RowKit
set_option linter.unusedVariables false
set_option linter.unusedSimpArgs false
set_option maxRecDepth 100000

structure Rw where
  txn : Int
  name : List UInt8
  mode : Int
  turn : Bool
structure Rt where
  has : List Rw
  waits : List Rw
def rwV (r : Rw) : List Value := [.int .i64 r.txn, strV r.name, .int .i64 r.mode, .bool r.turn]
abbrev rwA (r : Rw) : Value := .agg (rwV r).toArray
def rtV (vh vw : Value) : Value := .agg #[vh, vw]
def tabBx (b : Nat) (vh vw : Value) : Nat × Obj := (b, .cells #[vh, vw] 27 (0, 0))
def RdT (w : World) (v : Value) (D : Rt) : Prop := ∃ vh vw, v = rtV vh vw ∧ RdS w rwV 4 vh D.has ∧ RdS w rwV 4 vw D.waits
theorem RdT.mono {w w' : World} {v : Value} {D : Rt} (h : RdT w v D) (hU : Upd w w' []) : RdT w' v D := by
  obtain ⟨vh, vw, h1, h2, h3⟩ := h
  exact ⟨vh, vw, h1, h2.mono hU, h3.mono hU⟩
theorem ze_tab : (Tryz.prog.info? 27).bind (·.zero) = some (rtV (.slice none 0 0) (.slice none 0 0)) := ze27
theorem row_rw (r : Rw) (w : World) : (sBuildSlice 25 1 [(0, rwA r)]).run Tryz.prog w = .ok (.value (.slice (some ⟨w.heap.size, 0, none⟩) 1 1)) (w.alloc (.cells (rwV r).toArray 85)) := by kernel_rfl
theorem build_rw (x : Int) (s : List UInt8) (m : Int) (t : Bool) (w : World) : (sBuild 85 [(0, .int .i64 x), (1, strV s), (2, .int .i64 m), (3, .bool t)]).run Tryz.prog w = .ok (.value (rwA ⟨x, s, m, t⟩)) w := by kernel_rfl
theorem build_rw3 (x : Int) (s : List UInt8) (m : Int) (w : World) : (sBuild 85 [(0, .int .i64 x), (1, strV s), (2, .int .i64 m)]).run Tryz.prog w = .ok (.value (rwA ⟨x, s, m, false⟩)) w := by kernel_rfl
section
variable {α : Type} {W w w' : World} {F : List (Nat × Obj)} {K : Value → World → Prop}
theorem rw_at {v : Value} {l : List Rw} {i : Nat} (hr : RdS W rwV 4 v l) (hi : i < l.length) : ∃ a c, v = .slice (some a) l.length c ∧ ∀ w', Upd W w' [] → w'.cell? (a.add (i * 4 + 0)) = some (.int .i64 l[i].txn) ∧ w'.cell? (a.add (i * 4 + 1)) = some (strV l[i].name) ∧ w'.cell? (a.add (i * 4 + 2)) = some (.int .i64 l[i].mode) ∧ w'.cell? (a.add (i * 4 + 3)) = some (.bool l[i].turn) ∧
    (loadVar 85 (a.add (i * 4))).run Tryz.prog w' = .ok (rwA l[i]) w' := by
  obtain ⟨A, c, rfl, hm, hrd⟩ := hr
  obtain ⟨a, rfl, hx⟩ := Rd.row (f := rwV) (k := 4) (fun _ => rfl) (by omega) hrd hi
  have e : ((i : Nat) : Int).toNat = i := by omega
  rw [e] at hx
  exact ⟨a, c, rfl, fun w' hU => ⟨hx w' hU 0 _ rfl, hx w' hU 1 _ rfl, hx w' hU 2 _ rfl, hx w' hU 3 _ rfl, run_loadVarN (cs := rwV l[i]) ag85 (by rw [sz85]; rfl) fun j v hj => by rw [add_add']; exact hx w' hU j v hj⟩⟩
theorem rdS_len {f : α → List Value} {k : Nat} {v : Value} {l : List α} (h : RdS w f k v l) : ∃ A c, v = .slice A l.length c ∧ l.length ≤ 9223372036854775807 := by
  obtain ⟨A, c, h1, h2, -⟩ := h
  exact ⟨A, c, h1, Nat.le_trans h2 (by decide)⟩
theorem tab_cells {b : Nat} {vh vw : Value} (h : w.heap[b]? = some (tabBx b vh vw).2) : w.cell? ⟨b, 0, none⟩ = some vh ∧ w.cell? ⟨b, 1, none⟩ = some vw ∧ (loadVar 27 ⟨b, 0, none⟩).run Tryz.prog w = .ok (rtV vh vw) w :=
  ⟨(cell_at h).trans rfl, (cell_at h).trans rfl, run_loadVarN (cs := [vh, vw]) ag27 (by rw [sz27]; rfl) (cells_read (cs := #[vh, vw]) h)⟩
/-- a list that is being put together, in memory of its own -/
def OutG (t : TypeId) (k : Nat) (f : α → List Value) (W : World) (F : List (Nat × Obj)) (l : List α) (v : Value) (w : World) : Prop :=
  ∃ hr, RowH t k v l.length (l.flatMap f) hr ∧ Owns w (hr ++ F) ∧ Upd W w [] ∧ ∀ p ∈ hr, p.1 ∈ ([] : List Nat) ∨ W.heap.size ≤ p.1
theorem OutG.nil_ {t : TypeId} {k : Nat} {f : α → List Value} (hU : Upd W w []) (hO : Owns w F) : OutG t k f W F [] (.slice none 0 0) w := ⟨[], RowH.nil_ _ _, hO, hU, fun p hp => (by cases hp)⟩
theorem OutG.upd {t : TypeId} {k : Nat} {f : α → List Value} {l : List α} {v : Value} (h : OutG t k f W F l v w) (hU : Upd w w' []) : OutG t k f W F l v w' := by
  obtain ⟨hr, h1, h2, h3, h4⟩ := h
  exact ⟨hr, h1, h2.ext hU, h3.trans hU, h4⟩
theorem OutG.U {t : TypeId} {k : Nat} {f : α → List Value} {l : List α} {v : Value} (h : OutG t k f W F l v w) : Upd W w [] := by
  obtain ⟨hr, h1, h2, h3, h4⟩ := h
  exact h3
theorem OutG.owns {t : TypeId} {k : Nat} {f : α → List Value} {l : List α} {v : Value} (h : OutG t k f W F l v w) : Owns w F := by
  obtain ⟨hr, h1, h2, h3, h4⟩ := h
  exact h2.sub (List.sublist_append_right hr F)
theorem OutG.len {t : TypeId} {k : Nat} {f : α → List Value} {l : List α} {v : Value} (h : OutG t k f W F l v w) : ∃ A c, v = .slice A l.length c := by
  obtain ⟨hr, h1, h2, h3, h4⟩ := h
  exact RowH.sl' h1
theorem OutG.rd {t : TypeId} {k : Nat} {f : α → List Value} {l : List α} {v : Value} (h : OutG t k f W F l v w) (hl : l.length ≤ 1000000000) : RdS w f k v l := by
  obtain ⟨hr, h1, h2, h3, h4⟩ := h
  obtain ⟨A, c, rfl⟩ := RowH.sl' h1
  exact ⟨A, c, rfl, Nat.le_trans hl (by decide), h1.rd h2⟩
theorem OutG.weak {t : TypeId} {k : Nat} {f : α → List Value} {l : List α} {v : Value} {G : List (Nat × Obj)} (h : OutG t k f W F l v w) (hs : G.Sublist F) : OutG t k f W G l v w := by
  obtain ⟨hr, h1, h2, h3, h4⟩ := h
  exact ⟨hr, h1, h2.sub (hs.append_left hr), h3, h4⟩
theorem OutG.permF {t : TypeId} {k : Nat} {f : α → List Value} {l : List α} {v : Value} {G : List (Nat × Obj)} (h : OutG t k f W F l v w) (hs : F.Perm G) : OutG t k f W G l v w := by
  obtain ⟨hr, h1, h2, h3, h4⟩ := h
  exact ⟨hr, h1, h2.perm (hs.append_left hr), h3, h4⟩
/-- what is said of a list's kind -/
structure Kind (ts t : TypeId) (k : Nat) (f : α → List Value) (V : α → Value) : Prop where
  u : Tryz.prog.underlying ts = some (.slice t)
  info : ∃ (i : TypeInfo) (z : Value) (by_ : Nat), Tryz.prog.info? t = some i ∧ i.zero = some z ∧ i.size = k ∧ i.bytes = by_ ∧ z.cells.size = k ∧ by_ ≤ 1000
  pos : 0 < k
  len : ∀ x, (f x).length = k
  one : ∀ x, ∀ y ∈ f x, y.oneCell' = true
  row : ∀ x w, (sBuildSlice ts 1 [(0, V x)]).run Tryz.prog w = .ok (.value (.slice (some ⟨w.heap.size, 0, none⟩) 1 1)) (w.alloc (.cells (f x).toArray t))
theorem kind_rw : Kind 25 85 4 rwV rwA := by
  refine ⟨u25, ?_, by decide, fun x => rfl, fun x y hy => ?_, row_rw⟩
  · obtain ⟨i, h1, h2, h3, h4⟩ := inf85
    exact ⟨i, _, _, h1, h2, h3, h4, rfl, by decide⟩
  · simp only [rwV, List.mem_cons, List.not_mem_nil, or_false] at hy
    rcases hy with rfl | rfl | rfl | rfl <;> rfl
def inV (x : Int) : List Value := [.int .i64 x]
theorem kind_int : Kind 44 3 1 inV (Value.int .i64) := by
  refine ⟨u44, ?_, by decide, fun x => rfl, fun x y hy => ?_, row_int⟩
  · obtain ⟨i, h1, h2, h3, h4⟩ := inf3
    exact ⟨i, _, _, h1, h2, h3, h4, rfl, by decide⟩
  · simp only [inV, List.mem_cons, List.not_mem_nil, or_false] at hy
    subst hy; rfl
theorem kind_ed : Kind 39 78 2 edV (fun e : Ed => .agg (edV e).toArray) := by
  refine ⟨u39, ?_, by decide, fun x => rfl, fun x y hy => ?_, row_ed⟩
  · obtain ⟨i, h1, h2, h3, h4⟩ := inf78
    exact ⟨i, _, _, h1, h2, h3, h4, rfl, by decide⟩
  · simp only [edV, List.mem_cons, List.not_mem_nil, or_false] at hy
    rcases hy with rfl | rfl <;> rfl
theorem kind_he : Kind 59 104 2 heV (fun e : He => .agg (heV e).toArray) := by
  refine ⟨u59, ?_, by decide, fun x => rfl, fun x y hy => ?_, row_he⟩
  · obtain ⟨i, h1, h2, h3, h4⟩ := inf104
    exact ⟨i, _, _, h1, h2, h3, h4, rfl, by decide⟩
  · simp only [heV, List.mem_cons, List.not_mem_nil, or_false] at hy
    rcases hy with rfl | rfl <;> rfl
def stV (s : List UInt8) : List Value := [strV s]
theorem row_st (s : List UInt8) (w : World) : (sBuildSlice 109 1 [(0, strV s)]).run Tryz.prog w = .ok (.value (.slice (some ⟨w.heap.size, 0, none⟩) 1 1)) (w.alloc (.cells (stV s).toArray 9)) := by kernel_rfl
theorem kind_st : Kind 109 9 1 stV strV := by
  refine ⟨u109, ?_, by decide, fun x => rfl, fun x y hy => ?_, row_st⟩
  · obtain ⟨i, h1, h2, h3, h4⟩ := inf9
    exact ⟨i, _, _, h1, h2, h3, h4, rfl, by decide⟩
  · simp only [stV, List.mem_cons, List.not_mem_nil, or_false] at hy
    subst hy; rfl
theorem flat_one {ts t : TypeId} {k : Nat} {f : α → List Value} {V : α → Value} (hk : Kind ts t k f V) (l : List α) : ∀ y ∈ l.flatMap f, y.oneCell' = true := fun y hy => by
  obtain ⟨x, -, hx⟩ := List.mem_flatMap.1 hy
  exact hk.one x y hx
/-- one more -/
theorem OutG.push {ts t : TypeId} {k : Nat} {f : α → List Value} {V : α → Value} (hk : Kind ts t k f V) {l : List α} {v : Value} (h : OutG t k f W F l v w) (hl : l.length ≤ 1000000000) (x : α)
    (hK : ∀ v' w', OutG t k f W F (l ++ [x]) v' w' → K v' w') : (std Tryz.prog).step (sBuildSlice ts 1 [(0, V x)]) w fun u w => (std Tryz.prog).step (sBuiltin .append #[ts, ts] ts [false, false] [v, u]) w K := by
  obtain ⟨hr, hrow, hO, hU, hm⟩ := h
  refine st_newRow (fun w => hk.row x w) hU hO ?_
  intro gr w1 hU1 hO1 hgr
  obtain ⟨i, z, by_, e1, e2, e3, e4, e5, e6⟩ := hk.info
  have hP : Owns w1 (hr ++ ((gr, .cells (f x).toArray t (0, 0)) :: F)) := hO1.perm (by
    classical
    refine List.perm_iff_count.2 fun y => ?_
    simp only [List.count_cons, List.count_append]
    omega)
  have hrd : Rd w1 k (.slice (some ⟨gr, 0, none⟩) 1 1) 1 (f x) := ⟨_, 1, rfl, Nat.le_refl _, by rw [hk.len, Nat.one_mul], fun j u hu => ⟨_, rfl, cells_read (cs := (f x).toArray) (hO1.at_ 0 rfl) j u (by simpa using hu)⟩⟩
  have hmx : (1000000001 : Nat) ≤ maxLen := by decide
  refine st_append hk.u e1 e2 e3 e4 e5 hk.pos hrow hP hU1 hm hrd (hk.one x) (by omega) (Nat.le_trans (Nat.mul_le_mul_left _ e6) (by omega)) ?_
  intro v2 w2 hr2 hrow2 hO2 hU2 hm2
  refine hK v2 w2 ⟨hr2, ?_, hO2.sub (List.Sublist.append_left (List.sublist_cons_self ..) _), hU2, hm2⟩
  rw [List.length_append, List.length_singleton, List.flatMap_append]
  simpa using hrow2
/-- many more -/
theorem OutG.app {ts t : TypeId} {k : Nat} {f : α → List Value} {V : α → Value} (hk : Kind ts t k f V) {l ys : List α} {v u : Value} (h : OutG t k f W F l v w) (hrd : Rd w k u ys.length (ys.flatMap f)) (hl : l.length + ys.length ≤ 1000000000)
    (hK : ∀ v' w', OutG t k f W F (l ++ ys) v' w' → K v' w') : (std Tryz.prog).step (sBuiltin .append #[ts, ts] ts [false, false] [v, u]) w K := by
  obtain ⟨hr, hrow, hO, hU, hm⟩ := h
  obtain ⟨i, z, by_, e1, e2, e3, e4, e5, e6⟩ := hk.info
  have hmx : (1000000001 : Nat) ≤ maxLen := by decide
  refine st_append hk.u e1 e2 e3 e4 e5 hk.pos hrow hO hU hm hrd (flat_one hk ys) (by omega) (Nat.le_trans (Nat.mul_le_mul_left _ e6) (by omega)) ?_
  intro v2 w2 hr2 hrow2 hO2 hU2 hm2
  refine hK v2 w2 ⟨hr2, ?_, hO2, hU2, hm2⟩
  rw [List.length_append, List.flatMap_append]
  exact hrow2
def Fresh (w : World) (u : Value) : Prop := ∀ b, u.ownBlock = some b → w.heap.size ≤ b
theorem Fresh.mono {w w' : World} {u : Value} (h : Fresh w' u) (hs : w.heap.size ≤ w'.heap.size) : Fresh w u := fun b hb => Nat.le_trans hs (h b hb)
theorem OutG.fresh {t : TypeId} {k : Nat} {f : α → List Value} {l : List α} {v : Value} (h : OutG t k f W F l v w) : Fresh W v := by
  obtain ⟨hr, h1, h2, h3, h4⟩ := h
  intro b hb
  rcases h1.2 with ⟨rfl, _⟩ | ⟨g, cap, cs, rfl, rfl, _⟩
  · cases hb
  · cases hb
    exact (h4 _ (List.mem_singleton.2 rfl)).elim (fun h => by cases h) id
/-- what u reads does not lie in the block of v -/
def Sep {β : Type} (v u : Value) (l : List β) : Prop := l = [] ∨ ∀ b, v.ownBlock = some b → u.ownBlock ≠ some b
theorem Sep.nil_ {β : Type} {u : Value} {l : List β} : Sep (.slice none 0 0) u l := .inr fun b hb => by cases hb
theorem OutG.sep {t : TypeId} {k : Nat} {f : α → List Value} {l : List α} {v u : Value} {β : Type} {l0 : List β} (h : OutG t k f W F l v w) (hf : Fresh w u) : Sep v u l0 := by
  obtain ⟨hr, h1, h2, h3, h4⟩ := h
  refine .inr fun b hb he => ?_
  have := hf b he
  rcases h1.2 with ⟨rfl, _⟩ | ⟨g, cap, cs, rfl, rfl, _⟩
  · cases hb
  · have hbg : g = b := by injection hb
    subst hbg
    have h5 : g < w.heap.size := h2.lt (p := (g, .cells cs t (0, 0))) (by simp)
    omega
/-- one more; what is read elsewhere stays -/
theorem OutG.pushX {ts t : TypeId} {k : Nat} {f : α → List Value} {V : α → Value} (hk : Kind ts t k f V) {l : List α} {v : Value} (h : OutG t k f W F l v w) (hl : l.length ≤ 1000000000) (x : α)
    (hK : ∀ v' w', OutG t k f W F (l ++ [x]) v' w' → (∀ (β : Type) (f0 : β → List Value) (k0 : Nat) (v0 : Value) (l0 : List β), (∀ x, (f0 x).length = k0) → 0 < k0 → RdS w f0 k0 v0 l0 → Sep v v0 l0 → RdS w' f0 k0 v0 l0 ∧ Sep v' v0 l0) → K v' w') : (std Tryz.prog).step (sBuildSlice ts 1 [(0, V x)]) w fun u w => (std Tryz.prog).step (sBuiltin .append #[ts, ts] ts [false, false] [v, u]) w K := by
  obtain ⟨hr, hrow, hO, hU, hm⟩ := h
  refine st_newRow (fun w => hk.row x w) (Upd.refl w (hr.map (·.1))) hO ?_
  intro gr w1 hU1 hO1 hgr
  obtain ⟨i, z, by_, e1, e2, e3, e4, e5, e6⟩ := hk.info
  have hP : Owns w1 (hr ++ ((gr, .cells (f x).toArray t (0, 0)) :: F)) := hO1.perm (by
    classical
    refine List.perm_iff_count.2 fun y => ?_
    simp only [List.count_cons, List.count_append]
    omega)
  have hrd : Rd w1 k (.slice (some ⟨gr, 0, none⟩) 1 1) 1 (f x) := ⟨_, 1, rfl, Nat.le_refl _, by rw [hk.len, Nat.one_mul], fun j u hu => ⟨_, rfl, cells_read (cs := (f x).toArray) (hO1.at_ 0 rfl) j u (by simpa using hu)⟩⟩
  have hmx : (1000000001 : Nat) ≤ maxLen := by decide
  refine st_append hk.u e1 e2 e3 e4 e5 hk.pos hrow hP hU1 (fun p hp => .inl (List.mem_map_of_mem (f := (·.1)) hp)) hrd (hk.one x) (by omega) (Nat.le_trans (Nat.mul_le_mul_left _ e6) (by omega)) ?_
  intro v2 w2 hr2 hrow2 hO2 hU2 hm2
  have hUW : Upd W w2 [] := hU.then_ hU2 fun y hy => by
    obtain ⟨p, hp, rfl⟩ := List.mem_map.1 hy
    exact hm p hp
  have hblk : ∀ b, b ∈ hr.map (·.1) → v.ownBlock = some b := fun b hb => by
    rcases hrow.2 with ⟨rfl, _, rfl⟩ | ⟨g, cap, cs, rfl, rfl, _⟩
    · cases hb
    · simp at hb; subst hb; rfl
  refine hK v2 w2 ⟨hr2, ?_, hO2.sub (List.Sublist.append_left (List.sublist_cons_self ..) _), hUW, fun p hp => ?_⟩ fun β f0 k0 v0 l0 hf0 hk0 hr0 hs0 => ?_
  · rw [List.length_append, List.length_singleton, List.flatMap_append]
    simpa using hrow2
  · rcases hm2 p hp with h | h
    · obtain ⟨p', hp', he⟩ := List.mem_map.1 h
      rw [← he]; exact hm p' hp'
    · exact .inr (Nat.le_trans hU.size h)
  · obtain ⟨A0, c0, rfl, hm0, A1, c1, q1, h4, h5, h6⟩ := hr0
    injection q1 with q1 q2 q3
    subst q1 q3
    cases l0 with
    | nil => exact ⟨⟨_, _, rfl, hm0, _, _, rfl, h4, h5, fun j u hu => by simp at hu⟩, .inl rfl⟩
    | cons y l0 =>
      have hs0 := hs0.resolve_left (by simp)
      have hpos : 0 < ((y :: l0).flatMap f0).length := by rw [h5, List.length_cons]; exact Nat.mul_pos (Nat.succ_pos _) hk0
      obtain ⟨a, rfl, hc0⟩ := h6 0 _ (List.getElem?_eq_getElem hpos)
      have hlt : a.block < w.heap.size := by have := World.block_lt_of_cell? w _ hc0; rwa [block_add] at this
      have hnot : a.block ∉ hr.map (·.1) := fun hm => hs0 _ (hblk _ hm) rfl
      refine ⟨⟨_, _, rfl, hm0, _, _, rfl, h4, h5, fun j u hu => ?_⟩, .inr fun b hb he => ?_⟩
      · obtain ⟨a', ha', hc⟩ := h6 j u hu
        injection ha' with ha'; subst ha'
        exact ⟨_, rfl, by rw [hU2.cell (by rw [block_add]; exact hlt) (by rw [block_add]; exact hnot)]; exact hc⟩
      · injection he with he
        have : b ∈ hr2.map (·.1) := by
          rcases hrow2.2 with ⟨rfl, _⟩ | ⟨g, cap, cs, rfl, rfl, _⟩
          · cases hb
          · cases hb; simp
        obtain ⟨p, hp, hpb⟩ := List.mem_map.1 this
        rcases hm2 p hp with h | h
        · rw [hpb, ← he] at h; exact hnot h
        · rw [hpb, ← he] at h; omega
end
end Go.Proofs.YtakifgecgmdjcaaGreat

/- The document's locks: who has what, who waits. -/
namespace Go.Proofs.YtakifgecgmdjcaaGreat
open Go Xf Go.RowKit
set_option linter.unusedVariables false
set_option linter.unusedSimpArgs false
set_option maxRecDepth 100000

def isR (x : Int) (s : List UInt8) (r : Rw) : Bool := decide (r.txn = x ∧ r.name = s)
def modeD (D : Rt) (x : Int) (s : List UInt8) : Int := ((D.has.find? (isR x s)).map (·.mode)).getD 0
def wouldD (D : Rt) (x : Int) (s : List UInt8) (m : Int) : Int := (joi (sureN (modeD D x s)) (sureN m) : Nat)
def offB (D : Rt) (x : Int) (s : List UInt8) (m : Int) (r : Rw) : Bool := decide (r.txn ≠ x ∧ r.name = s) && !bes (sureN r.mode) (sureN (wouldD D x s m))
def goesD (D : Rt) (x : Int) (s : List UInt8) (m : Int) : Bool := D.has.all fun r => !offB D x s m r
def waitingD (D : Rt) (x : Int) : List Rw := D.waits.filter fun r => decide (r.txn ≠ x)
def getT (D : Rt) (x : Int) (s : List UInt8) (m : Int) : Rt := ⟨(D.has.filter fun r => !isR x s r) ++ [⟨x, s, wouldD D x s m, false⟩], D.waits⟩
def tuD (D : Rt) (s : List UInt8) : List Rw := D.waits.filter fun r => decide (r.name = s) && r.turn
def roD (D : Rt) (s : List UInt8) : List Rw := D.waits.filter fun r => decide (r.name = s) && !r.turn
def inD (D : Rt) (s : List UInt8) : List Rw := tuD D s ++ roD D s
def waitF (D : Rt) (x : Int) : Option Rw := D.waits.find? fun r => decide (r.txn = x)
theorem find_take {α : Type} (p : α → Bool) : ∀ {l : List α} {i : Nat} (hi : i < l.length), (∀ r ∈ l.take i, p r = false) → p l[i] = true → l.find? p = some l[i]
  | [], i, hi, _, _ => absurd hi (by simp)
  | a :: l, 0, hi, _, h2 => by simp only [List.getElem_cons_zero] at h2 ⊢; simp [h2]
  | a :: l, i + 1, hi, h1, h2 => by
    have ha := h1 a (by simp)
    rw [List.find?_cons_of_neg (by simp [ha])]
    simp only [List.getElem_cons_succ] at h2 ⊢
    exact find_take p (by simpa using hi) (fun r hr => h1 r (by rw [List.take_succ_cons]; exact List.mem_cons_of_mem _ hr)) h2
theorem filter_take {α : Type} (p : α → Bool) {l : List α} {i : Nat} (hi : i < l.length) : (l.take (i + 1)).filter p = (l.take i).filter p ++ (if p l[i] then [l[i]] else []) := by
  rw [List.take_succ_eq_append_getElem hi, List.filter_append]
  congr 1
  by_cases h : p l[i] = true <;> simp [h]
section
variable {W w w' : World} {F : List (Nat × Obj)} {K : Value → World → Prop} {D : Rt} {v : Value}
theorem rMode_spec (h : RdT w v D) (x : Int) (s : List UInt8) : CallsR Tryz.prog 39 #[v, .int .i64 x, strV s] w fun u w' => u = .int .i64 (modeD D x s) ∧ Upd w w' [] := by
  apply flotillaref13_Mode_sound
  unfold flotillaref13_Mode_x flotillaref13_Mode_k1
  obtain ⟨vh, vw, rfl, hh, hw⟩ := h
  obtain ⟨A, c, rfl, hl⟩ := rdS_len hh
  refine st_box (Upd.refl w []) (Owns.nil w) ?_
  intro b w1 hU1 hO1 hb
  have hO1 : Owns w1 [tabBx b (.slice A D.has.length c) vw] := hO1
  refine st_loop (fun vs w' => ∃ i : Nat, i ≤ D.has.length ∧ vs.getD 1 undef = .int .i64 i ∧ SU w [tabBx b (.slice A D.has.length c) vw] w' ∧ ∀ r ∈ D.has.take i, isR x s r = false) (fun vs _ => D.has.length - (intOf (vs.getD 1 undef)).toNat) ⟨0, Nat.zero_le _, rfl, ⟨hU1, hO1⟩, by simp⟩ ?_
  rintro dv vs w2 - ⟨i, hi, e1, ⟨hU2, hO2⟩, hno⟩
  obtain ⟨c0, -, -⟩ := tab_cells (hO2.at_ 0 rfl)
  simp (disch := first | assumption | omega) only [e1, PX, BX, LX, add_mk, Nat.reduceAdd]
  refine ⟨fun hlt => ?_, fun hge => ?_⟩
  rotate_left
  · obtain rfl : i = D.has.length := by omega
    rw [List.take_length] at hno
    refine ⟨?_, hU2⟩
    unfold modeD
    rw [List.find?_eq_none.2 fun r hr => by rw [hno r hr]; exact Bool.false_ne_true]; rfl
  have hi' : i < D.has.length := by omega
  obtain ⟨a, c', q1, hc⟩ := rw_at hh hi'
  injection q1 with q1; subst q1
  obtain ⟨k0, k1, k2, k3, -⟩ := hc w2 hU2
  have htk : D.has.take (i + 1) = D.has.take i ++ [D.has[i]] := List.take_succ_eq_append_getElem hi'
  simp (disch := first | assumption | omega) only [PX, BX, LX, add_mk, add_add', Nat.reduceAdd, mk_inj]
  unfold flotillaref13_Mode_k2
  refine ⟨fun hx => ?_, fun hx => ?_⟩
  · refine ⟨fun hs => ?_, fun hs => ?_⟩
    · refine ⟨?_, hU2⟩
      unfold modeD
      rw [find_take (isR x s) hi' hno (by unfold isR; exact decide_eq_true ⟨hx, hs⟩)]; rfl
    · simp (disch := omega) only [e1, PX, w64]
      refine ⟨⟨i + 1, by omega, rfl, ⟨hU2, hO2⟩, fun r hr => ?_⟩, ?_⟩
      · rw [htk] at hr
        rcases List.mem_append.1 hr with hr | hr
        · exact hno r hr
        · rw [List.mem_singleton] at hr; subst hr; exact decide_eq_false fun h => hs h.2
      · simp only [List.getD_cons_succ, List.getD_cons_zero, intOf]; omega
  · simp (disch := omega) only [e1, PX, w64]
    refine ⟨⟨i + 1, by omega, rfl, ⟨hU2, hO2⟩, fun r hr => ?_⟩, ?_⟩
    · rw [htk] at hr
      rcases List.mem_append.1 hr with hr | hr
      · exact hno r hr
      · rw [List.mem_singleton] at hr; subst hr; exact decide_eq_false fun h => hx h.1
    · simp only [List.getD_cons_succ, List.getD_cons_zero, intOf]; omega
theorem rGoes_spec (h : RdT w v D) (x : Int) (s : List UInt8) (m : Int) : CallsR Tryz.prog 56 #[v, .int .i64 x, strV s, .int .i64 m] w fun u w' => u = .bool (goesD D x s m) ∧ Upd w w' [] := by
  apply flotillaref13_Goes_sound
  unfold flotillaref13_Goes_x flotillaref13_Goes_k1
  have hT := h
  obtain ⟨vh, vw, rfl, hh, hw⟩ := h
  obtain ⟨A, c, rfl, hl⟩ := rdS_len hh
  refine st_box (Upd.refl w []) (Owns.nil w) ?_
  intro b w1 hU1 hO1 hb
  have hO1 : Owns w1 [tabBx b (.slice A D.has.length c) vw] := hO1
  rw [step_run (run_sLoad (tab_cells (hO1.at_ 0 rfl)).2.2)]
  refine st_call (rMode_spec (hT.mono hU1) x s) ?_
  rintro _ w1 ⟨rfl, hU1'⟩
  have hO1 := hO1.ext hU1'
  have hU1 := hU1.trans hU1'
  refine st_call (rJoin_spec _ _ _) ?_
  rintro _ w1 ⟨rfl, rfl⟩
  have hwd : ((joi (sureN (modeD D x s)) (sureN m) : Nat) : Int) = wouldD D x s m := rfl
  rw [hwd]
  refine st_loop (fun vs w' => ∃ i : Nat, i ≤ D.has.length ∧ vs.getD 2 undef = .int .i64 i ∧ SU w [tabBx b (.slice A D.has.length c) vw] w' ∧ ∀ r ∈ D.has.take i, offB D x s m r = false) (fun vs _ => D.has.length - (intOf (vs.getD 2 undef)).toNat) ⟨0, Nat.zero_le _, rfl, ⟨hU1, hO1⟩, by simp⟩ ?_
  rintro dv vs w2 - ⟨i, hi, e1, ⟨hU2, hO2⟩, hno⟩
  obtain ⟨c0, -, -⟩ := tab_cells (hO2.at_ 0 rfl)
  simp (disch := first | assumption | omega) only [e1, PX, BX, LX, add_mk, Nat.reduceAdd]
  refine ⟨fun hlt => ?_, fun hge => ?_⟩
  rotate_left
  · obtain rfl : i = D.has.length := by omega
    rw [List.take_length] at hno
    refine ⟨?_, hU2⟩
    have : goesD D x s m = true := List.all_eq_true.2 fun r hr => by rw [hno r hr]; rfl
    rw [this]
  have hi' : i < D.has.length := by omega
  obtain ⟨a, c', q1, hc⟩ := rw_at hh hi'
  injection q1 with q1; subst q1
  obtain ⟨-, -, -, -, kl⟩ := hc w2 hU2
  have htk : D.has.take (i + 1) = D.has.take i ++ [D.has[i]] := List.take_succ_eq_append_getElem hi'
  simp (disch := first | assumption | omega) only [PX, BX, LX, add_mk, add_add', Nat.reduceAdd]
  rw [step_run (run_sLoad kl)]
  refine st_alloc ze85 hU2 hO2 ?_
  intro b8 w3 hU3 hO3 hb8
  refine st_storeN (vs := rwV D.has[i]) (by rw [sz85]; rfl) hU3 hO3 0 rfl (by show 0 + 4 ≤ 4; decide) (kind_rw.one _) (.inr hb8) ?_
  intro w4 hU4 hO4
  have hO4 : Owns w4 ((b8, .cells (rwV D.has[i]).toArray 85 (0, 0)) :: [tabBx b (.slice (some a) D.has.length c) vw]) := hO4
  have hO4' := hO4.sub (List.sublist_cons_self ..)
  have c0 : w4.cell? ⟨b8, 0, none⟩ = some (.int .i64 D.has[i].txn) := (cell_at (hO4.at_ 0 rfl)).trans rfl
  have c1 : w4.cell? ⟨b8, 1, none⟩ = some (strV D.has[i].name) := (cell_at (hO4.at_ 0 rfl)).trans rfl
  have c2 : w4.cell? ⟨b8, 2, none⟩ = some (.int .i64 D.has[i].mode) := (cell_at (hO4.at_ 0 rfl)).trans rfl
  have goOn : ∀ w', SU w [tabBx b (.slice (some a) D.has.length c) vw] w' → offB D x s m D.has[i] = false → ∀ r ∈ D.has.take (i + 1), offB D x s m r = false := fun w' h ho r hr => by
    rw [htk] at hr
    rcases List.mem_append.1 hr with hr | hr
    · exact hno r hr
    · rw [List.mem_singleton] at hr; subst hr; exact ho
  unfold flotillaref13_Goes_k3 flotillaref13_Goes_k2
  simp (disch := first | assumption | omega) only [e1, PX, BX, LX, add_mk, add_add', Nat.reduceAdd, mk_inj, w64]
  refine ⟨fun hx => ⟨fun hs => ?_, fun hs => ?_⟩, fun hx => ?_⟩
  · refine st_call (rBeside_spec _ _ _) ?_
    rintro _ w5 ⟨rfl, rfl⟩
    simp (disch := first | assumption | omega) only [e1, PX, BX, w64]
    rw [bool_var]
    refine ⟨fun hb => ?_, fun hb => ?_⟩
    rotate_left
    · have ho : offB D x s m D.has[i] = true := by
        unfold offB
        rw [decide_eq_true (⟨hx, hs⟩ : _ ∧ _), Bool.true_and, hb]; rfl
      have : goesD D x s m = false := List.all_eq_false.2 ⟨_, List.getElem_mem hi', by rw [ho]; simp⟩
      rw [this]
      exact ⟨rfl, hU4⟩
    · have ho : offB D x s m D.has[i] = false := by unfold offB; rw [hb, Bool.not_true, Bool.and_false]
      refine ⟨⟨i + 1, by omega, rfl, ⟨hU4, hO4'⟩, goOn _ ⟨hU4, hO4'⟩ ho⟩, ?_⟩
      simp only [List.getD_cons_succ, List.getD_cons_zero, intOf]; omega
  · have ho : offB D x s m D.has[i] = false := by unfold offB; rw [decide_eq_false (fun h => hs h.2), Bool.false_and]
    refine ⟨⟨i + 1, by omega, rfl, ⟨hU4, hO4'⟩, goOn _ ⟨hU4, hO4'⟩ ho⟩, ?_⟩
    simp only [List.getD_cons_succ, List.getD_cons_zero, intOf]; omega
  · have ho : offB D x s m D.has[i] = false := by unfold offB; rw [decide_eq_false (fun h => hx h.1), Bool.false_and]
    refine ⟨⟨i + 1, by omega, rfl, ⟨hU4, hO4'⟩, goOn _ ⟨hU4, hO4'⟩ ho⟩, ?_⟩
    simp only [List.getD_cons_succ, List.getD_cons_zero, intOf]; omega
theorem rWaiting_spec (h : RdT w v D) (hl9 : D.waits.length ≤ 1000000) (x : Int) : CallsR Tryz.prog 59 #[v, .int .i64 x] w fun u w' => RdS w' rwV 4 u (waitingD D x) ∧ Upd w w' [] ∧ Fresh w u := by
  apply flotillaref13_waiting_sound
  unfold flotillaref13_waiting_x flotillaref13_waiting_k1
  obtain ⟨vh, vw, rfl, hh, hw⟩ := h
  obtain ⟨A, c, rfl, hl⟩ := rdS_len hw
  refine st_box (Upd.refl w []) (Owns.nil w) ?_
  intro b w1 hU1 hO1 hb
  have hO1 : Owns w1 [tabBx b vh (.slice A D.waits.length c)] := hO1
  refine st_loop (fun vs w' => ∃ i : Nat, i ≤ D.waits.length ∧ vs.getD 1 undef = .int .i64 i ∧ OutG 85 4 rwV w [tabBx b vh (.slice A D.waits.length c)] ((D.waits.take i).filter fun r => decide (r.txn ≠ x)) (vs.getD 0 undef) w') (fun vs _ => D.waits.length - (intOf (vs.getD 1 undef)).toNat) ⟨0, Nat.zero_le _, rfl, by rw [List.take_zero]; exact OutG.nil_ hU1 hO1⟩ ?_
  rintro dv vs w2 - ⟨i, hi, e1, hG⟩
  have hU2 := hG.U
  obtain ⟨-, c0, -⟩ := tab_cells (hG.owns.at_ 0 rfl)
  have hfl : ((D.waits.take i).filter fun r => decide (r.txn ≠ x)).length ≤ 1000000 := by
    have := List.length_filter_le (fun r : Rw => decide (r.txn ≠ x)) (D.waits.take i)
    have := List.length_take_le i D.waits
    omega
  simp (disch := first | assumption | omega) only [e1, PX, BX, LX, add_mk, Nat.reduceAdd]
  refine ⟨fun hlt => ?_, fun hge => ?_⟩
  rotate_left
  · obtain rfl : i = D.waits.length := by omega
    rw [List.take_length] at hG hfl
    exact ⟨hG.rd (by omega), hU2, hG.fresh⟩
  have hi' : i < D.waits.length := by omega
  obtain ⟨a, c', q1, hc⟩ := rw_at hw hi'
  injection q1 with q1; subst q1
  obtain ⟨k0, -, -, -, kl⟩ := hc w2 hU2
  have htk := filter_take (fun r : Rw => decide (r.txn ≠ x)) hi'
  simp (disch := first | assumption | omega) only [PX, BX, LX, add_mk, add_add', Nat.reduceAdd]
  unfold flotillaref13_waiting_k2
  refine ⟨fun hx => ?_, fun hx => ?_⟩
  · simp (disch := first | assumption | omega) only [PX, BX, LX, add_mk, add_add', Nat.reduceAdd]
    rw [step_run (run_sLoad kl)]
    refine hG.push kind_rw (by omega) _ ?_
    intro v' w3 hG3
    simp (disch := omega) only [e1, PX, w64]
    refine ⟨⟨i + 1, by omega, rfl, ?_⟩, ?_⟩
    · rw [htk, if_pos (decide_eq_true hx)]; exact hG3
    · simp only [List.getD_cons_succ, List.getD_cons_zero, intOf]; omega
  · simp (disch := omega) only [e1, PX, w64]
    refine ⟨⟨i + 1, by omega, rfl, ?_⟩, ?_⟩
    · rw [htk, if_neg (by simpa using hx), List.append_nil]; exact hG
    · simp only [List.getD_cons_succ, List.getD_cons_zero, intOf]; omega
end
end Go.Proofs.YtakifgecgmdjcaaGreat

/- The document's locks: the row of a name, who waits, what one gets. -/
namespace Go.Proofs.YtakifgecgmdjcaaGreat
open Go Xf Go.RowKit
set_option linter.unusedVariables false
set_option linter.unusedSimpArgs false
set_option maxRecDepth 100000

def wOfR (r : Rw) : Wt := ⟨r.name, r.mode⟩
def wOf (D : Rt) (x : Int) : Option Wt := (waitF D x).map wOfR
theorem build_wantR (s : List UInt8) (m : Int) (w : World) : (sBuild 31 [(0, strV s), (1, .int .i64 m)]).run Tryz.prog w = .ok (.value (wtV ⟨s, m⟩)) w := by kernel_rfl
theorem build_want0 (w : World) : (sBuild 31 []).run Tryz.prog w = .ok (.value (wtV ⟨[], 0⟩)) w := by kernel_rfl
theorem build_tab (A A' : Option Addr) (n c n' c' : Nat) (w : World) : (sBuild 27 [(0, .slice A n c), (1, .slice A' n' c')]).run Tryz.prog w = .ok (.value (rtV (.slice A n c) (.slice A' n' c'))) w := by kernel_rfl
section
variable {α : Type} {W w w' : World} {F : List (Nat × Obj)} {K : Value → World → Prop} {D : Rt} {v : Value}
/-- a row of one in new memory -/
theorem OutG.new {ts t : TypeId} {k : Nat} {f : α → List Value} {V : α → Value} (hk : Kind ts t k f V) {l : List α} {v : Value} (h : OutG t k f W F l v w) (x : α)
    (hK : ∀ gr w', OutG t k f W ((gr, .cells (f x).toArray t (0, 0)) :: F) l v w' → K (.slice (some ⟨gr, 0, none⟩) 1 1) w') : (std Tryz.prog).step (sBuildSlice ts 1 [(0, V x)]) w K := by
  obtain ⟨hr, hrow, hO, hU, hm⟩ := h
  refine st_newRow (fun w => hk.row x w) hU hO ?_
  intro gr w1 hU1 hO1 hgr
  refine hK gr w1 ⟨hr, hrow, hO1.perm ?_, hU1, hm⟩
  classical
  refine List.perm_iff_count.2 fun y => ?_
  simp only [List.count_cons, List.count_append]
  omega
theorem OutG.app1 {ts t : TypeId} {k : Nat} {f : α → List Value} {V : α → Value} (hk : Kind ts t k f V) {l : List α} {v : Value} {gr : Nat} {x : α} (h : OutG t k f W ((gr, .cells (f x).toArray t (0, 0)) :: F) l v w) (hl : l.length ≤ 900000000)
    (hK : ∀ v' w', OutG t k f W F (l ++ [x]) v' w' → K v' w') : (std Tryz.prog).step (sBuiltin .append #[ts, ts] ts [false, false] [v, .slice (some ⟨gr, 0, none⟩) 1 1]) w K := by
  have hO := h.owns
  refine h.app hk (ys := [x]) ⟨_, 1, rfl, Nat.le_refl _, by simp [hk.len], fun j u hu => ⟨_, rfl, cells_read (cs := (f x).toArray) (hO.at_ 0 rfl) j u (by simpa using hu)⟩⟩ (by simp; omega) ?_
  intro v' w' h'
  exact hK v' w' (h'.weak (List.sublist_cons_self ..))
theorem OutG.storeN {t : TypeId} {k : Nat} {f : α → List Value} {l : List α} {v : Value} (h : OutG t k f W F l v w) {tt e : TypeId} {g off : Nat} {cs : Array Value} {vs : List Value} (hn : (Tryz.prog.info? tt).map (·.size) = some vs.length) (j : Nat) (hj : F[j]? = some (g, .cells cs e (0, 0))) (hl : off + vs.length ≤ cs.size) (h1 : ∀ u ∈ vs, u.oneCell' = true) (hg : W.heap.size ≤ g)
    (hK : ∀ w', OutG t k f W (F.set j (g, .cells (cs.toList.take off ++ vs ++ cs.toList.drop (off + vs.length)).toArray e (0, 0))) l v w' → K undef w') : (std Tryz.prog).step (sStore tt (.pointer (some ⟨g, off, none⟩)) (.agg vs.toArray)) w K := by
  obtain ⟨hr, hrow, hO, hU, hm⟩ := h
  refine Go.Proofs.YtakifgecgmdjcaaGreat.st_storeN hn hU hO (hr.length + j) (by rw [List.getElem?_append_right (by omega), Nat.add_sub_cancel_left]; exact hj) hl h1 (.inr hg) ?_
  intro w' hU' hO'
  refine hK w' ⟨hr, hrow, ?_, hU', hm⟩
  rw [List.set_append_right _ _ (by omega), Nat.add_sub_cancel_left] at hO'
  exact hO'
theorem filt_le {α : Type} (p : α → Bool) (l : List α) (i : Nat) : ((l.take i).filter p).length ≤ l.length := Nat.le_trans (List.length_filter_le _ _) (List.length_take_le' ..)
theorem rGet_spec {vw : Value} (h : RdT w v D) (hvw : ∃ vh, v = rtV vh vw) (hl9 : D.has.length ≤ 1000000) (x : Int) (s : List UInt8) (m : Int) : CallsR Tryz.prog 57 #[v, .int .i64 x, strV s, .int .i64 m] w fun u w' => (∃ vh', u = rtV vh' vw ∧ Fresh w vh') ∧ RdT w' u (getT D x s m) ∧ Upd w w' [] := by
  apply flotillaref13_get_sound
  unfold flotillaref13_get_x
  have hT := h
  obtain ⟨vh0, rfl⟩ := hvw
  obtain ⟨vh, vw', hv, hh, hw⟩ := h
  unfold rtV at hv
  simp only [Value.agg.injEq, Array.mk.injEq, List.cons.injEq, and_true] at hv
  obtain ⟨rfl, rfl⟩ := hv
  obtain ⟨A, c, rfl, hl⟩ := rdS_len hh
  obtain ⟨Aw, cw, rfl, hlw⟩ := rdS_len hw
  refine st_box (Upd.refl w []) (Owns.nil w) ?_
  intro b w1 hU1 hO1 hb
  have hO1 : Owns w1 [tabBx b (.slice A D.has.length c) (.slice Aw D.waits.length cw)] := hO1
  refine st_alloc ze_tab hU1 hO1 ?_
  intro b8 w1 hU1 hO1 hb8
  rw [step_run (run_sLoad (tab_cells (hO1.at_ 1 rfl)).2.2)]
  refine st_call (rMode_spec (hT.mono hU1) x s) ?_
  rintro _ w1 ⟨rfl, hU1'⟩
  have hO1 := hO1.ext hU1'
  have hU1 := hU1.trans hU1'
  refine st_call (rJoin_spec _ _ _) ?_
  rintro _ w1 ⟨rfl, rfl⟩
  have hwd : ((joi (sureN (modeD D x s)) (sureN m) : Nat) : Int) = wouldD D x s m := rfl
  rw [hwd]
  generalize hF : [(b8, Obj.cells (rtV (.slice none 0 0) (.slice none 0 0)).cells 27 (0, 0)), tabBx b (.slice A D.has.length c) (.slice Aw D.waits.length cw)] = F at hO1
  have hFb : tabBx b (.slice A D.has.length c) (.slice Aw D.waits.length cw) ∈ F := by rw [← hF]; simp
  refine st_loop (fun vs w' => ∃ i : Nat, i ≤ D.has.length ∧ vs.getD 1 undef = .int .i64 i ∧ OutG 85 4 rwV w F ((D.has.take i).filter fun r => !isR x s r) (vs.getD 0 undef) w') (fun vs _ => D.has.length - (intOf (vs.getD 1 undef)).toNat) ⟨0, Nat.zero_le _, rfl, by rw [List.take_zero]; exact OutG.nil_ hU1 hO1⟩ ?_
  rintro dv vs w2 - ⟨i, hi, e1, hG⟩
  have hU2 := hG.U
  have hbx : ∀ {w'' : World}, Owns w'' F → w''.heap[b]? = some (tabBx b (.slice A D.has.length c) (.slice Aw D.waits.length cw)).2 := fun ho => ho.2 _ hFb
  obtain ⟨c0, -, -⟩ := tab_cells (hbx hG.owns)
  have hfl := filt_le (fun r : Rw => !isR x s r) D.has i
  simp (disch := first | assumption | omega) only [e1, PX, BX, LX, add_mk, Nat.reduceAdd]
  refine ⟨fun hlt => ?_, fun hge => ?_⟩
  rotate_left
  · obtain rfl : i = D.has.length := by omega
    rw [List.take_length] at hG hfl
    unfold flotillaref13_get_k1
    let S : World → Prop := fun w' => w'.heap[b]? = some (tabBx b (.slice A D.has.length c) (.slice Aw D.waits.length cw)).2
    have hGd := hG.upd (Upd.drew w2 [])
    have hne : ∃ w', S w' := ⟨_, hbx hGd.owns⟩
    refine st_draw S (hbx hGd.owns) ?_
    have g1 : ∀ w', S w' → w'.cell? ⟨b, 1, none⟩ = some (.slice Aw D.waits.length cw) := fun w' h => (tab_cells h).2.1
    simp (disch := first | exact hne | assumption | omega) only [SX, SLX, add_mk, Nat.reduceAdd]
    rw [step_run (build_rw3 x s _ _)]
    refine st_same (hbx hGd.owns) ?_
    refine hGd.new kind_rw ⟨x, s, wouldD D x s m, false⟩ ?_
    intro gr w3 hG3
    refine st_same (hbx (hG3.owns.sub (List.sublist_cons_self ..))) ?_
    refine hG3.app1 kind_rw (by omega) ?_
    intro v' w4 hG4
    refine st_same (hbx hG4.owns) ?_
    obtain ⟨A', c', rfl⟩ := hG4.len
    rw [step_run (build_tab _ _ _ _ _ _ _)]
    refine st_keepT (fun _ => True) trivial ?_
    have hrd := hG4.rd (by simp; omega)
    have hvn1 : ∀ u ∈ [Value.slice A' (((D.has.filter fun r => !isR x s r)) ++ [(⟨x, s, wouldD D x s m, false⟩ : Rw)]).length c', .slice Aw D.waits.length cw], u.oneCell' = true := fun u hu => by simp only [List.mem_cons, List.not_mem_nil, or_false] at hu; rcases hu with rfl | rfl <;> rfl
    subst hF
    refine hG4.storeN (vs := [_, _]) (by rw [sz27]; rfl) 0 rfl (by show 0 + 2 ≤ 2; decide) hvn1 hb8 ?_
    intro w5 hG5
    have hb5 := hG5.owns.at_ 0 rfl
    refine st_keepT (fun _ => True) trivial ?_
    refine st_loadR (tab_cells hb5).2.2 ?_
    exact ⟨⟨_, rfl, hG5.fresh⟩, ⟨_, _, rfl, hG5.rd (by simp; omega), hw.mono hG5.U⟩, hG5.U⟩
  have hi' : i < D.has.length := by omega
  obtain ⟨a, c', q1, hc⟩ := rw_at hh hi'
  injection q1 with q1; subst q1
  obtain ⟨k0, k1, -, -, kl⟩ := hc w2 hU2
  have htk := filter_take (fun r : Rw => !isR x s r) hi'
  simp (disch := first | assumption | omega) only [PX, BX, LX, add_mk, add_add', Nat.reduceAdd, mk_inj]
  unfold flotillaref13_get_k2
  refine ⟨fun hx => ?_, fun hx => ⟨fun hs => ?_, fun hs => ?_⟩⟩
  · rw [step_run (run_sLoad kl)]
    refine hG.push kind_rw (by omega) _ ?_
    intro v' w3 hG3
    simp (disch := omega) only [e1, PX, w64]
    refine ⟨⟨i + 1, by omega, rfl, ?_⟩, ?_⟩
    · rw [htk, if_pos (by unfold isR; rw [decide_eq_false fun h => hx h.1]; rfl)]; exact hG3
    · simp only [List.getD_cons_succ, List.getD_cons_zero, intOf]; omega
  · simp (disch := omega) only [e1, PX, w64]
    refine ⟨⟨i + 1, by omega, rfl, ?_⟩, ?_⟩
    · rw [htk, if_neg (by unfold isR; rw [decide_eq_true (⟨Classical.not_not.1 hx, hs⟩ : _ ∧ _)]; simp), List.append_nil]; exact hG
    · simp only [List.getD_cons_succ, List.getD_cons_zero, intOf]; omega
  · rw [step_run (run_sLoad kl)]
    refine hG.push kind_rw (by omega) _ ?_
    intro v' w3 hG3
    simp (disch := omega) only [e1, PX, w64]
    refine ⟨⟨i + 1, by omega, rfl, ?_⟩, ?_⟩
    · rw [htk, if_pos (by unfold isR; rw [decide_eq_false fun h => hs h.2]; rfl)]; exact hG3
    · simp only [List.getD_cons_succ, List.getD_cons_zero, intOf]; omega
theorem rIn_k1 {b : Nat} {vh : Value} {A : Option Addr} {c : Nat} {u : Value} (hw : RdS W rwV 4 (.slice A D.waits.length c) D.waits) (hl9 : D.waits.length ≤ 1000000) (s : List UInt8) (hG : OutG 85 4 rwV W [tabBx b vh (.slice A D.waits.length c)] (tuD D s) u w) :
    flotillaref13_In_k1 (std Tryz.prog) (strV s) (.pointer (some ⟨b, 0, none⟩)) u w fun u w' => RdS w' rwV 4 u (inD D s) ∧ Upd W w' [] := by
  unfold flotillaref13_In_k1 flotillaref13_In_k2
  have htl : (tuD D s).length ≤ D.waits.length := List.length_filter_le ..
  refine st_loop (fun vs w' => ∃ i : Nat, i ≤ D.waits.length ∧ vs.getD 1 undef = .int .i64 i ∧ OutG 85 4 rwV W [tabBx b vh (.slice A D.waits.length c)] (tuD D s ++ (D.waits.take i).filter fun r => decide (r.name = s) && !r.turn) (vs.getD 0 undef) w') (fun vs _ => D.waits.length - (intOf (vs.getD 1 undef)).toNat) ⟨0, Nat.zero_le _, rfl, by rw [List.take_zero, List.filter_nil, List.append_nil]; exact hG⟩ ?_
  rintro dv vs w2 - ⟨i, hi, e1, hG⟩
  have hU2 := hG.U
  obtain ⟨-, c0, -⟩ := tab_cells (hG.owns.at_ 0 rfl)
  have hfl := filt_le (fun r : Rw => decide (r.name = s) && !r.turn) D.waits i
  simp (disch := first | assumption | omega) only [e1, PX, BX, LX, add_mk, Nat.reduceAdd]
  refine ⟨fun hlt => ?_, fun hge => ?_⟩
  rotate_left
  · obtain rfl : i = D.waits.length := by omega
    rw [List.take_length] at hG hfl
    exact ⟨hG.rd (by rw [List.length_append]; omega), hU2⟩
  have hi' : i < D.waits.length := by omega
  obtain ⟨a, c', q1, hc⟩ := rw_at hw hi'
  injection q1 with q1; subst q1
  obtain ⟨-, k1, -, k3, kl⟩ := hc w2 hU2
  have htk := filter_take (fun r : Rw => decide (r.name = s) && !r.turn) hi'
  simp (disch := first | assumption | omega) only [PX, BX, LX, add_mk, add_add', Nat.reduceAdd, mk_inj]
  unfold flotillaref13_In_k3
  have skip : (decide (D.waits[i].name = s) && !D.waits[i].turn) = false → (tuD D s ++ (D.waits.take (i + 1)).filter fun r => decide (r.name = s) && !r.turn) = (tuD D s ++ (D.waits.take i).filter fun r => decide (r.name = s) && !r.turn) := fun h => by rw [htk, if_neg (by rw [h]; exact Bool.false_ne_true), List.append_nil]
  refine ⟨fun hs => ?_, fun hs => ?_⟩
  · rw [bool_var]
    refine ⟨fun ht => ?_, fun ht => ?_⟩
    · simp (disch := omega) only [e1, PX, w64]
      refine ⟨⟨i + 1, by omega, rfl, ?_⟩, ?_⟩
      · rw [skip (by rw [ht]; simp)]; exact hG
      · simp only [List.getD_cons_succ, List.getD_cons_zero, intOf]; omega
    · rw [step_run (run_sLoad kl)]
      refine hG.push kind_rw (by rw [List.length_append]; omega) _ ?_
      intro v' w3 hG3
      simp (disch := omega) only [e1, PX, w64]
      refine ⟨⟨i + 1, by omega, rfl, ?_⟩, ?_⟩
      · rw [htk, if_pos (by rw [decide_eq_true hs, ht]; rfl), ← List.append_assoc]; exact hG3
      · simp only [List.getD_cons_succ, List.getD_cons_zero, intOf]; omega
  · simp (disch := omega) only [e1, PX, w64]
    refine ⟨⟨i + 1, by omega, rfl, ?_⟩, ?_⟩
    · rw [skip (by rw [decide_eq_false hs]; rfl)]; exact hG
    · simp only [List.getD_cons_succ, List.getD_cons_zero, intOf]; omega
theorem rIn_spec (h : RdT w v D) (hl9 : D.waits.length ≤ 1000000) (s : List UInt8) : CallsR Tryz.prog 42 #[v, strV s] w fun u w' => RdS w' rwV 4 u (inD D s) ∧ Upd w w' [] := by
  apply flotillaref13_In_sound
  unfold flotillaref13_In_x
  obtain ⟨vh, vw, rfl, hh, hw⟩ := h
  obtain ⟨A, c, rfl, hl⟩ := rdS_len hw
  refine st_box (Upd.refl w []) (Owns.nil w) ?_
  intro b w1 hU1 hO1 hb
  have hO1 : Owns w1 [tabBx b vh (.slice A D.waits.length c)] := hO1
  refine st_loop (fun vs w' => ∃ i : Nat, i ≤ D.waits.length ∧ vs.getD 1 undef = .int .i64 i ∧ OutG 85 4 rwV w [tabBx b vh (.slice A D.waits.length c)] ((D.waits.take i).filter fun r => decide (r.name = s) && r.turn) (vs.getD 0 undef) w') (fun vs _ => D.waits.length - (intOf (vs.getD 1 undef)).toNat) ⟨0, Nat.zero_le _, rfl, by rw [List.take_zero]; exact OutG.nil_ hU1 hO1⟩ ?_
  rintro dv vs w2 - ⟨i, hi, e1, hG⟩
  have hU2 := hG.U
  obtain ⟨-, c0, -⟩ := tab_cells (hG.owns.at_ 0 rfl)
  have hfl := filt_le (fun r : Rw => decide (r.name = s) && r.turn) D.waits i
  simp (disch := first | assumption | omega) only [e1, PX, BX, LX, add_mk, Nat.reduceAdd]
  refine ⟨fun hlt => ?_, fun hge => ?_⟩
  rotate_left
  · obtain rfl : i = D.waits.length := by omega
    rw [List.take_length] at hG hfl
    exact rIn_k1 hw hl9 s hG
  have hi' : i < D.waits.length := by omega
  obtain ⟨a, c', q1, hc⟩ := rw_at hw hi'
  injection q1 with q1; subst q1
  obtain ⟨-, k1, -, k3, kl⟩ := hc w2 hU2
  have htk := filter_take (fun r : Rw => decide (r.name = s) && r.turn) hi'
  simp (disch := first | assumption | omega) only [PX, BX, LX, add_mk, add_add', Nat.reduceAdd, mk_inj]
  unfold flotillaref13_In_k4
  have skip : (decide (D.waits[i].name = s) && D.waits[i].turn) = false → ((D.waits.take (i + 1)).filter fun r => decide (r.name = s) && r.turn) = ((D.waits.take i).filter fun r => decide (r.name = s) && r.turn) := fun h => by rw [htk, if_neg (by rw [h]; exact Bool.false_ne_true), List.append_nil]
  refine ⟨fun hs => ?_, fun hs => ?_⟩
  · rw [bool_var]
    refine ⟨fun ht => ?_, fun ht => ?_⟩
    · rw [step_run (run_sLoad kl)]
      refine hG.push kind_rw (by omega) _ ?_
      intro v' w3 hG3
      simp (disch := omega) only [e1, PX, w64]
      refine ⟨⟨i + 1, by omega, rfl, ?_⟩, ?_⟩
      · rw [htk, if_pos (by rw [decide_eq_true hs, ht]; rfl)]; exact hG3
      · simp only [List.getD_cons_succ, List.getD_cons_zero, intOf]; omega
    · simp (disch := omega) only [e1, PX, w64]
      refine ⟨⟨i + 1, by omega, rfl, ?_⟩, ?_⟩
      · rw [skip (by rw [ht]; simp)]; exact hG
      · simp only [List.getD_cons_succ, List.getD_cons_zero, intOf]; omega
  · simp (disch := omega) only [e1, PX, w64]
    refine ⟨⟨i + 1, by omega, rfl, ?_⟩, ?_⟩
    · rw [skip (by rw [decide_eq_false hs]; rfl)]; exact hG
    · simp only [List.getD_cons_succ, List.getD_cons_zero, intOf]; omega
end
end Go.Proofs.YtakifgecgmdjcaaGreat

/- The document's locks: Waits, Ask. -/
namespace Go.Proofs.YtakifgecgmdjcaaGreat
open Go Xf Go.RowKit
set_option linter.unusedVariables false
set_option linter.unusedSimpArgs false
set_option maxRecDepth 100000

def argsBad (x : Int) (w : Wt) : Prop := x < 1 ∨ (w.name.length : Int) < 1 ∨ 16 < (w.name.length : Int) ∨ w.mode < 1 ∨ 5 < w.mode
instance (x : Int) (w : Wt) : Decidable (argsBad x w) := by unfold argsBad; infer_instance
def askD (D : Rt) (x : Int) (w : Wt) : Rt × Bool × Int :=
  if argsBad x w then (D, false, 1)
  else if (wOf D x).isSome then (D, false, 10)
  else if modeD D x w.name ≠ 0 ∧ cov (sureN (modeD D x w.name)) (sureN w.mode) = true then (D, true, 0)
  else if goesD D x w.name w.mode = true ∧ (modeD D x w.name ≠ 0 ∨ (inD D w.name).length = 0) then (getT D x w.name w.mode, true, 0)
  else (⟨D.has, D.waits ++ [⟨x, w.name, w.mode, decide (modeD D x w.name ≠ 0)⟩]⟩, false, 0)
section
variable {W w w' : World} {F : List (Nat × Obj)} {K : Value → World → Prop} {D : Rt} {v : Value} {n0 : Nat}
theorem RdS.keep {α : Type} {f : α → List Value} {k : Nat} {v : Value} {l : List α} {b : Nat} {A A' : Option Addr} {n c n' c' : Nat} (hf : ∀ x, ∀ y ∈ f x, ∀ (A : Option Addr) (n c : Nat), y ≠ .slice A n c) (h : RdS w f k v l) (hb : w.heap[b]? = some (tabBx b (.slice A n c) (.slice A' n' c')).2) (hU : Upd w w' [b]) : RdS w' f k v l := by
  obtain ⟨A0, c0, h1, h2, A1, c1, h3, h4, h5, h6⟩ := h
  refine ⟨A0, c0, h1, h2, A1, c1, h3, h4, h5, fun j u hu => ?_⟩
  obtain ⟨a, ha, hc⟩ := h6 j u hu
  refine ⟨a, ha, ?_⟩
  by_cases he : (a.add j).block = b
  · exfalso
    obtain ⟨x, -, hx⟩ := List.mem_flatMap.1 (List.mem_of_getElem? hu)
    have hn := hf x u hx
    unfold World.cell? at hc
    rw [he, hb] at hc
    simp only [tabBx] at hc
    split at hc
    · cases hc
    · generalize (a.add j).off = o at hc
      match o, hc with
      | 0, hc => injection hc with hc; exact hn _ _ _ hc.symm
      | 1, hc => injection hc with hc; exact hn _ _ _ hc.symm
      | o + 2, hc => simp at hc
  · rw [hU.cell (World.block_lt_of_cell? w _ hc) (by simpa using he)]; exact hc
theorem rw_nosl (x : Rw) : ∀ y ∈ rwV x, ∀ (A : Option Addr) (n c : Nat), y ≠ .slice A n c := by
  intro y hy A n c he
  simp only [rwV, List.mem_cons, List.not_mem_nil, or_false] at hy
  rcases hy with rfl | rfl | rfl | rfl <;> cases he
theorem rWaits_found {b4 b i c : Nat} {a : Addr} {vh : Value} {x : Int} {r : Rw} (hU : Upd W w []) (hO : Owns w [wtBx b4 ⟨[], 0⟩, tabBx b vh (.slice (some a) n0 c)]) (hb4 : W.heap.size ≤ b4) (hi : i < n0)
    (hc : ∀ w', Upd W w' [] → w'.cell? (a.add (i * 4 + 1)) = some (strV r.name) ∧ w'.cell? (a.add (i * 4 + 2)) = some (.int .i64 r.mode)) :
  (std Tryz.prog).draw w fun S_1 w =>
  (std Tryz.prog).stepS S_1 (sFieldAddr 27 (.pointer (some ⟨b, 0, none⟩)) 1) fun v22_1 =>
  (std Tryz.prog).stepS S_1 (sLoad 25 v22_1) fun v23_1 =>
  (std Tryz.prog).stepS S_1 (sIndexAddr 25 v23_1 (.int .i64 (i : Nat))) fun v25_1 =>
  (std Tryz.prog).stepS S_1 (sFieldAddr 85 v25_1 1) fun v26_1 =>
  (std Tryz.prog).stepS S_1 (sLoad 9 v26_1) fun v27_1 =>
  (std Tryz.prog).stepS S_1 (sFieldAddr 27 (.pointer (some ⟨b, 0, none⟩)) 1) fun v28_1 =>
  (std Tryz.prog).stepS S_1 (sLoad 25 v28_1) fun v29_1 =>
  (std Tryz.prog).stepS S_1 (sIndexAddr 25 v29_1 (.int .i64 (i : Nat))) fun v31_1 =>
  (std Tryz.prog).stepS S_1 (sFieldAddr 85 v31_1 2) fun v32_1 =>
  (std Tryz.prog).stepS S_1 (sLoad 29 v32_1) fun v33_1 =>
  (std Tryz.prog).step (sBuild 31 [(0, v27_1), (1, v33_1)]) w fun v34_1 w =>
  (std Tryz.prog).keepT w fun S_2 =>
  (std Tryz.prog).step (sStore 31 (.pointer (some ⟨b4, 0, none⟩)) v34_1) w fun vx_2 w =>
  (std Tryz.prog).keepT w fun S_3 =>
  (std Tryz.prog).loadR 31 (.pointer (some ⟨b4, 0, none⟩)) w fun r_2 =>
  (fun (u : Value) w' => u = .tuple #[wtV (wOfR r), .bool true] ∧ Upd W w' []) (.tuple #[r_2, (.bool true)]) w := by
  have hSd : SU W [wtBx b4 ⟨[], 0⟩, tabBx b vh (.slice (some a) n0 c)] w.drew := SU.drew hU hO
  have hne : ∃ w', SU W [wtBx b4 ⟨[], 0⟩, tabBx b vh (.slice (some a) n0 c)] w' := ⟨_, hSd⟩
  have g1 : ∀ w', SU W [wtBx b4 ⟨[], 0⟩, tabBx b vh (.slice (some a) n0 c)] w' → w'.cell? ⟨b, 1, none⟩ = some (.slice (some a) n0 c) := fun w' h => (tab_cells (h.2.at_ 1 rfl)).2.1
  have g2 : ∀ w', SU W [wtBx b4 ⟨[], 0⟩, tabBx b vh (.slice (some a) n0 c)] w' → w'.cell? (a.add (i * 4 + 1)) = some (strV r.name) := fun w' h => (hc w' h.1).1
  have g3 : ∀ w', SU W [wtBx b4 ⟨[], 0⟩, tabBx b vh (.slice (some a) n0 c)] w' → w'.cell? (a.add (i * 4 + 2)) = some (.int .i64 r.mode) := fun w' h => (hc w' h.1).2
  refine st_draw _ hSd ?_
  clear hc
  simp (disch := first | exact hne | assumption | omega) only [SX, SLX, add_mk, add_add', Nat.reduceAdd]
  rw [step_run (build_wantR _ _ _)]
  refine st_keepT (fun _ => True) trivial ?_
  refine st_storeN (vs := [strV r.name, .int .i64 r.mode]) (by rw [sz31]; rfl) hSd.1 hSd.2 0 rfl (by show 0 + 2 ≤ 2; decide) (by simp [Value.oneCell']) (.inr hb4) ?_
  intro w3 hU3 hO3
  have hO3 : Owns w3 [wtBx b4 (wOfR r), tabBx b vh (.slice (some a) n0 c)] := hO3
  refine st_keepT (fun _ => True) trivial ?_
  refine st_loadR (wt_load (hO3.at_ 0 rfl)) ?_
  exact ⟨rfl, hU3⟩
theorem rWaits_spec (h : RdT w v D) (x : Int) : CallsR Tryz.prog 29 #[v, .int .i64 x] w fun u w' => u = .tuple #[wtV ((wOf D x).getD ⟨[], 0⟩), .bool (wOf D x).isSome] ∧ Upd w w' [] := by
  apply flotillaref13_Waits_sound
  unfold flotillaref13_Waits_x flotillaref13_Waits_k1
  obtain ⟨vh, vw, rfl, hh, hw⟩ := h
  obtain ⟨A, c, rfl, hl⟩ := rdS_len hw
  refine st_box (Upd.refl w []) (Owns.nil w) ?_
  intro b w1 hU1 hO1 hb
  have hO1 : Owns w1 [tabBx b vh (.slice A D.waits.length c)] := hO1
  refine st_alloc ze_want hU1 hO1 ?_
  intro b4 w1 hU1 hO1 hb4
  have hO1 : Owns w1 [wtBx b4 ⟨[], 0⟩, tabBx b vh (.slice A D.waits.length c)] := hO1
  refine st_loop (fun vs w' => ∃ i : Nat, i ≤ D.waits.length ∧ vs.getD 1 undef = .int .i64 i ∧ SU w [wtBx b4 ⟨[], 0⟩, tabBx b vh (.slice A D.waits.length c)] w' ∧ ∀ r ∈ D.waits.take i, decide (r.txn = x) = false) (fun vs _ => D.waits.length - (intOf (vs.getD 1 undef)).toNat) ⟨0, Nat.zero_le _, rfl, ⟨hU1, hO1⟩, by simp⟩ ?_
  rintro dv vs w2 - ⟨i, hi, e1, ⟨hU2, hO2⟩, hno⟩
  obtain ⟨-, c0, -⟩ := tab_cells (hO2.at_ 1 rfl)
  simp (disch := first | assumption | omega) only [e1, PX, BX, LX, add_mk, Nat.reduceAdd]
  refine ⟨fun hlt => ?_, fun hge => ?_⟩
  rotate_left
  · obtain rfl : i = D.waits.length := by omega
    rw [List.take_length] at hno
    have hn : wOf D x = none := by
      unfold wOf waitF
      rw [List.find?_eq_none.2 fun r hr => by rw [hno r hr]; exact Bool.false_ne_true]; rfl
    rw [hn, step_run (build_want0 w2)]
    refine st_storeN (vs := [strV [], .int .i64 0]) (by rw [sz31]; rfl) hU2 hO2 0 rfl (by show 0 + 2 ≤ 2; decide) (by simp [Value.oneCell']) (.inr hb4) ?_
    intro w3 hU3 hO3
    have hO3 : Owns w3 [wtBx b4 ⟨[], 0⟩, tabBx b vh (.slice A D.waits.length c)] := hO3
    refine st_loadR (wt_load (hO3.at_ 0 rfl)) ?_
    exact ⟨rfl, hU3⟩
  have hi' : i < D.waits.length := by omega
  obtain ⟨a, c', q1, hc⟩ := rw_at hw hi'
  injection q1 with q1; subst q1
  obtain ⟨k0, -, -, -, -⟩ := hc w2 hU2
  have htk : D.waits.take (i + 1) = D.waits.take i ++ [D.waits[i]] := List.take_succ_eq_append_getElem hi'
  simp (disch := first | assumption | omega) only [PX, BX, LX, add_mk, add_add', Nat.reduceAdd]
  refine ⟨fun hx => ?_, fun hx => ?_⟩
  · have hf : wOf D x = some (wOfR D.waits[i]) := by
      unfold wOf waitF
      rw [find_take (fun r : Rw => decide (r.txn = x)) hi' hno (decide_eq_true hx)]; rfl
    rw [hf]
    have := rWaits_found (W := w) (w := w2) (i := i) (x := x) hU2 hO2 hb4 hi' fun w' h => ⟨(hc w' h).2.1, (hc w' h).2.2.1⟩
    exact this
  · simp (disch := omega) only [e1, PX, w64]
    refine ⟨⟨i + 1, by omega, rfl, ⟨hU2, hO2⟩, fun r hr => ?_⟩, ?_⟩
    · rw [htk] at hr
      rcases List.mem_append.1 hr with hr | hr
      · exact hno r hr
      · rw [List.mem_singleton] at hr; subst hr; exact decide_eq_false hx
    · simp only [List.getD_cons_succ, List.getD_cons_zero, intOf]; omega
theorem rdS_one' {α : Type} {f : α → List Value} {k : Nat} {v : Value} {l : List α} (h : RdS w f k v l) : v.oneCell' = true := by obtain ⟨A, c, rfl, -⟩ := h; rfl
/-- the boxes of Ask -/
def askF (b3 b5 b6 : Nat) (vh vw : Value) (v : Wt) : List (Nat × Obj) := [tabBx b6 (.slice none 0 0) (.slice none 0 0), wtBx b5 v, tabBx b3 vh vw]
/-- the result, through its box -/
theorem ret_tab {b6 : Nat} {vh vw : Value} {G : List (Nat × Obj)} {x y : Value} {R : Value → World → Prop} (hU : Upd W w []) (hO : Owns w (tabBx b6 (.slice none 0 0) (.slice none 0 0) :: G)) (hb : W.heap.size ≤ b6) (hh : vh.oneCell' = true) (hw : vw.oneCell' = true) (hK : ∀ w', Upd W w' [] → Owns w' G → Upd w w' [b6] → R (.tuple #[rtV vh vw, x, y]) w') :
    (std Tryz.prog).step (sStore 27 (.pointer (some ⟨b6, 0, none⟩)) (rtV vh vw)) w fun vx_1 w => (std Tryz.prog).loadR 27 (.pointer (some ⟨b6, 0, none⟩)) w fun r_1 => R (.tuple #[r_1, x, y]) w := by
  refine st_storeN (vs := [vh, vw]) (by rw [sz27]; rfl) (Upd.refl w [b6]) hO 0 rfl (by show 0 + 2 ≤ 2; decide) (fun u hu => by simp only [List.mem_cons, List.not_mem_nil, or_false] at hu; rcases hu with rfl | rfl <;> assumption) (.inl (List.mem_singleton.2 rfl)) ?_
  intro w5 hU5 hO5
  have hO5 : Owns w5 (tabBx b6 vh vw :: G) := hO5
  refine st_loadR (tab_cells (hO5.at_ 0 rfl)).2.2 ?_
  exact hK w5 (hU.then_ hU5 fun y hy => by rw [List.mem_singleton] at hy; subst hy; exact .inr hb) (hO5.sub (List.sublist_cons_self ..)) hU5
def AskPost (W : World) (vh vw : Value) (r : Rt × Bool × Int) (u : Value) (w' : World) : Prop := ∃ vh' vw', u = .tuple #[rtV vh' vw', .bool r.2.1, .int .i64 r.2.2] ∧ (vh' = vh ∨ Fresh W vh') ∧ (vw' = vw ∨ Fresh W vw') ∧ RdT w' (rtV vh' vw') r.1 ∧ Upd W w' []
theorem rAsk_k3 {b3 b5 b6 : Nat} {vh vw : Value} {x : Int} {v : Wt} {m0 : Int} (hh : RdS W rwV 4 vh D.has) (hw : RdS W rwV 4 vw D.waits) (hl9 : D.waits.length ≤ 1000000) (hU : Upd W w []) (hO : Owns w (askF b3 b5 b6 vh vw v)) (hb6 : W.heap.size ≤ b6) :
    flotillaref13_Ask_k3 (std Tryz.prog) (.int .i64 x) (.pointer (some ⟨b3, 0, none⟩)) (.pointer (some ⟨b5, 0, none⟩)) (.pointer (some ⟨b6, 0, none⟩)) (.int .i64 m0) w (AskPost W vh vw (⟨D.has, D.waits ++ [⟨x, v.name, v.mode, decide (m0 ≠ 0)⟩]⟩, false, 0)) := by
  unfold flotillaref13_Ask_k3
  obtain ⟨A, c, rfl, hl⟩ := rdS_len hh
  obtain ⟨c0, c1, -⟩ := tab_cells (hO.at_ 2 rfl)
  obtain ⟨d0, d1⟩ := wt_cells (hO.at_ 1 rfl)
  simp (disch := first | assumption | omega) only [PX, BX, LX, add_mk, Nat.reduceAdd]
  have hwr : Rd w 4 vw D.waits.length (D.waits.flatMap rwV) := by
    obtain ⟨A', c', rfl, -, hr⟩ := hw
    exact hr.mono hU
  refine (OutG.nil_ (f := rwV) (t := 85) (k := 4) hU hO).app kind_rw hwr (by simp; omega) ?_
  intro v1 w1 hG1
  rw [List.nil_append] at hG1
  obtain ⟨c0, c1, -⟩ := tab_cells (hG1.owns.at_ 2 rfl)
  obtain ⟨d0, d1⟩ := wt_cells (hG1.owns.at_ 1 rfl)
  simp (disch := first | assumption | omega) only [PX, BX, LX, add_mk, Nat.reduceAdd]
  rw [step_run (build_rw _ _ _ _ _)]
  refine hG1.push kind_rw (by omega) _ ?_
  intro v2 w2 hG2
  obtain ⟨c0, c1, -⟩ := tab_cells (hG2.owns.at_ 2 rfl)
  obtain ⟨A2, c2, rfl⟩ := hG2.len
  simp (disch := first | assumption | omega) only [PX, BX, LX, add_mk, Nat.reduceAdd]
  rw [step_run (build_tab _ _ _ _ _ _ _)]
  refine hG2.storeN (vs := [_, _]) (by rw [sz27]; rfl) 0 rfl (by show 0 + 2 ≤ 2; decide) (fun u hu => by simp only [List.mem_cons, List.not_mem_nil, or_false] at hu; rcases hu with rfl | rfl <;> rfl) hb6 ?_
  intro w5 hG5
  refine st_loadR (tab_cells (hG5.owns.at_ 0 rfl)).2.2 ?_
  exact ⟨_, _, rfl, .inl rfl, .inr hG5.fresh, ⟨_, _, rfl, hh.mono hG5.U, hG5.rd (by simp; omega)⟩, hG5.U⟩
theorem rAsk_get {b3 b5 b6 : Nat} {vh vw : Value} {x : Int} {v : Wt} (hh : RdS W rwV 4 vh D.has) (hw : RdS W rwV 4 vw D.waits) (hl9 : D.has.length ≤ 1000000) (hU : Upd W w []) (hO : Owns w (askF b3 b5 b6 vh vw v)) (hb6 : W.heap.size ≤ b6) :
    (std Tryz.prog).calls 57 #[rtV vh vw, .int .i64 x, strV v.name, .int .i64 v.mode] w fun v85_2 w =>
      (std Tryz.prog).step (sStore 27 (.pointer (some ⟨b6, 0, none⟩)) v85_2) w fun vx_7 w =>
      (std Tryz.prog).loadR 27 (.pointer (some ⟨b6, 0, none⟩)) w fun r_6 =>
      AskPost W vh vw (getT D x v.name v.mode, true, 0) (.tuple #[r_6, (.bool true), (.int .i64 0)]) w := by
  refine st_call (rGet_spec (D := D) ⟨vh, vw, rfl, hh.mono hU, hw.mono hU⟩ ⟨vh, rfl⟩ hl9 x v.name v.mode) ?_
  rintro u w1 ⟨⟨vh', rfl, hf⟩, ⟨vh'', vw', he, hh', hw'⟩, hU1⟩
  unfold rtV at he
  simp only [Value.agg.injEq, Array.mk.injEq, List.cons.injEq, and_true] at he
  obtain ⟨rfl, rfl⟩ := he
  have h1 : vh'.oneCell' = true := rdS_one' hh'
  have h2 : vw.oneCell' = true := rdS_one' hw'
  have hO1 := hO.ext hU1
  refine ret_tab (hU.trans hU1) hO1 hb6 h1 h2 fun w2 hU2 hO2 hU12 => ⟨_, _, rfl, .inr (hf.mono hU.size), .inl rfl, ⟨_, _, rfl, hh'.keep rw_nosl (hO1.at_ 0 rfl) hU12, hw'.keep rw_nosl (hO1.at_ 0 rfl) hU12⟩, hU2⟩
end
end Go.Proofs.YtakifgecgmdjcaaGreat

/- The document's locks: Ask, whole. -/
namespace Go.Proofs.YtakifgecgmdjcaaGreat
open Go Xf Go.RowKit
set_option linter.unusedVariables false
set_option linter.unusedSimpArgs false
set_option maxRecDepth 100000

section
variable {W w w' : World} {F : List (Nat × Obj)} {K : Value → World → Prop} {D : Rt} {v : Value}
theorem rdS_one {α : Type} {f : α → List Value} {k : Nat} {v : Value} {l : List α} (h : RdS w f k v l) : v.oneCell' = true := by obtain ⟨A, c, rfl, -⟩ := h; rfl
/-- the table itself is answered -/
theorem rAsk_same {b3 b5 b6 : Nat} {vh vw : Value} {v : Wt} {g : Bool} {e : Int} (hh : RdS W rwV 4 vh D.has) (hw : RdS W rwV 4 vw D.waits) (hU : Upd W w []) (hO : Owns w (askF b3 b5 b6 vh vw v)) (hb6 : W.heap.size ≤ b6) :
    (std Tryz.prog).step (sLoad 27 (.pointer (some ⟨b3, 0, none⟩))) w fun v37_1 w =>
  (std Tryz.prog).step (sStore 27 (.pointer (some ⟨b6, 0, none⟩)) v37_1) w fun vx_1 w =>
  (std Tryz.prog).loadR 27 (.pointer (some ⟨b6, 0, none⟩)) w fun r_1 =>
  AskPost W vh vw (D, g, e) (.tuple #[r_1, (.bool g), (.int .i64 e)]) w := by
  rw [step_run (run_sLoad (tab_cells (hO.at_ 2 rfl)).2.2)]
  exact ret_tab hU hO hb6 (rdS_one hh) (rdS_one hw) fun w2 hU2 hO2 _ => ⟨_, _, rfl, .inl rfl, .inl rfl, ⟨_, _, rfl, hh.mono hU2, hw.mono hU2⟩, hU2⟩
theorem rAsk_k2 {b3 b5 b6 : Nat} {vh vw : Value} {x : Int} {v : Wt} (hh : RdS W rwV 4 vh D.has) (hw : RdS W rwV 4 vw D.waits) (hlh : D.has.length ≤ 1000000) (hl9 : D.waits.length ≤ 1000000) (hU : Upd W w []) (hO : Owns w (askF b3 b5 b6 vh vw v)) (hb6 : W.heap.size ≤ b6)
    (r : Rt × Bool × Int) (h1 : goesD D x v.name v.mode = true ∧ (modeD D x v.name ≠ 0 ∨ (inD D v.name).length = 0) → r = (getT D x v.name v.mode, true, 0)) (h2 : ¬ (goesD D x v.name v.mode = true ∧ (modeD D x v.name ≠ 0 ∨ (inD D v.name).length = 0)) → r = (⟨D.has, D.waits ++ [⟨x, v.name, v.mode, decide (modeD D x v.name ≠ 0)⟩]⟩, false, 0)) :
    flotillaref13_Ask_k2 (std Tryz.prog) (.int .i64 x) (.pointer (some ⟨b3, 0, none⟩)) (.pointer (some ⟨b5, 0, none⟩)) (.pointer (some ⟨b6, 0, none⟩)) (.int .i64 (modeD D x v.name)) w (AskPost W vh vw r) := by
  unfold flotillaref13_Ask_k2
  obtain ⟨-, -, cl⟩ := tab_cells (hO.at_ 2 rfl)
  obtain ⟨d0, d1⟩ := wt_cells (hO.at_ 1 rfl)
  rw [step_run (run_sLoad cl)]
  simp (disch := first | assumption | omega) only [PX, BX, LX, add_mk, Nat.reduceAdd]
  refine st_call (rGoes_spec (D := D) ⟨vh, vw, rfl, hh.mono hU, hw.mono hU⟩ x v.name v.mode) ?_
  rintro _ w1 ⟨rfl, hU1⟩
  have hU := hU.trans hU1
  have hO := hO.ext hU1
  obtain ⟨-, -, cl⟩ := tab_cells (hO.at_ 2 rfl)
  obtain ⟨d0, d1⟩ := wt_cells (hO.at_ 1 rfl)
  rw [bool_var]
  refine ⟨fun hg => ?_, fun hg => ?_⟩
  rotate_left
  · rw [h2 (by rw [hg]; simp)]
    exact rAsk_k3 hh hw hl9 hU hO hb6
  refine ⟨fun hm => ?_, fun hm => ?_⟩
  · rw [step_run (run_sLoad cl)]
    simp (disch := first | assumption | omega) only [PX, BX, LX, add_mk, Nat.reduceAdd]
    rw [h1 ⟨hg, .inl hm⟩]
    exact rAsk_get hh hw hlh hU hO hb6
  · rw [step_run (run_sLoad cl)]
    simp (disch := first | assumption | omega) only [PX, BX, LX, add_mk, Nat.reduceAdd]
    refine st_call (rIn_spec (D := D) ⟨vh, vw, rfl, hh.mono hU, hw.mono hU⟩ hl9 v.name) ?_
    rintro u w2 ⟨hin, hU2⟩
    have hU := hU.trans hU2
    have hO := hO.ext hU2
    obtain ⟨-, -, cl⟩ := tab_cells (hO.at_ 2 rfl)
    obtain ⟨d0, d1⟩ := wt_cells (hO.at_ 1 rfl)
    obtain ⟨A, c, rfl, hil⟩ := rdS_len hin
    simp (disch := first | assumption | omega) only [PX, BX, LX, add_mk, Nat.reduceAdd]
    refine ⟨fun hz => ?_, fun hz => ?_⟩
    · rw [step_run (run_sLoad cl)]
      simp (disch := first | assumption | omega) only [PX, BX, LX, add_mk, Nat.reduceAdd]
      rw [h1 ⟨hg, .inr (by omega)⟩]
      exact rAsk_get hh hw hlh hU hO hb6
    · rw [h2 (by rintro ⟨-, h | h⟩; exact hm h; omega)]
      exact rAsk_k3 hh hw hl9 hU hO hb6
theorem rAsk_spec {vh vw : Value} (h : RdT w (rtV vh vw) D) (hlh : D.has.length ≤ 1000000) (hl9 : D.waits.length ≤ 1000000) (x : Int) (wt : Wt) (hnl : wt.name.length ≤ 1000000) : CallsR Tryz.prog 26 #[rtV vh vw, .int .i64 x, wtV wt] w (AskPost w vh vw (askD D x wt)) := by
  apply flotillaref13_Ask_sound
  unfold flotillaref13_Ask_x
  have hT := h
  obtain ⟨vh', vw', he, hh, hw⟩ := h
  unfold rtV at he
  simp only [Value.agg.injEq, Array.mk.injEq, List.cons.injEq, and_true] at he
  obtain ⟨rfl, rfl⟩ := he
  refine st_box (Upd.refl w []) (Owns.nil w) ?_
  intro b3 w1 hU1 hO1 hb3
  refine st_box hU1 hO1 ?_
  intro b5 w1 hU1 hO1 hb5
  refine st_alloc ze_tab hU1 hO1 ?_
  intro b6 w1 hU1 hO1 hb6
  have hO1 : Owns w1 (askF b3 b5 b6 vh vw wt) := hO1
  obtain ⟨-, -, cl⟩ := tab_cells (hO1.at_ 2 rfl)
  obtain ⟨d0, d1⟩ := wt_cells (hO1.at_ 1 rfl)
  unfold flotillaref13_Ask_k1
  have bad : argsBad x wt → AskPost w vh vw (askD D x wt) = AskPost w vh vw (D, false, 1) := fun h => by unfold askD; rw [if_pos h]
  simp (disch := first | assumption | omega) only [PX, BX, LX, add_mk, Nat.reduceAdd, size_mk]
  refine ⟨fun h1 => ?_, fun h1 => ⟨fun h2 => ?_, fun h2 => ⟨fun h3 => ?_, fun h3 => ⟨fun h4 => ?_, fun h4 => ⟨fun h5 => ?_, fun h5 => ?_⟩⟩⟩⟩⟩
  · rw [bad (.inl h1)]; exact rAsk_same hh hw hU1 hO1 hb6
  · rw [bad (.inr (.inl h2))]; exact rAsk_same hh hw hU1 hO1 hb6
  · rw [bad (.inr (.inr (.inl h3)))]; exact rAsk_same hh hw hU1 hO1 hb6
  · rw [bad (.inr (.inr (.inr (.inl h4))))]; exact rAsk_same hh hw hU1 hO1 hb6
  · rw [bad (.inr (.inr (.inr (.inr h5))))]; exact rAsk_same hh hw hU1 hO1 hb6
  have hok : ¬ argsBad x wt := fun h => by unfold argsBad at h; omega
  rw [step_run (run_sLoad cl)]
  refine st_call (rWaits_spec (hT.mono hU1) x) ?_
  rintro _ w2 ⟨rfl, hU2⟩
  have hU2 := hU1.trans hU2
  have hO2 := hO1.ext ‹Upd w1 w2 []›
  simp (disch := first | assumption | omega) only [PX]
  refine st_alloc ze_want hU2 hO2 ?_
  intro b9 w3 hU3 hO3 hb9
  have hask : askD D x wt = if (wOf D x).isSome then (D, false, 10) else if modeD D x wt.name ≠ 0 ∧ cov (sureN (modeD D x wt.name)) (sureN wt.mode) = true then (D, true, 0) else if goesD D x wt.name wt.mode = true ∧ (modeD D x wt.name ≠ 0 ∨ (inD D wt.name).length = 0) then (getT D x wt.name wt.mode, true, 0) else (⟨D.has, D.waits ++ [⟨x, wt.name, wt.mode, decide (modeD D x wt.name ≠ 0)⟩]⟩, false, 0) := by
    unfold askD; rw [if_neg hok]
  generalize hwo : (wOf D x).getD ⟨[], 0⟩ = wo
  refine st_storeN (vs := [strV wo.name, .int .i64 wo.mode]) (by rw [sz31]; rfl) hU3 hO3 0 rfl (by show 0 + 2 ≤ 2; decide) (by simp [Value.oneCell']) (.inr hb9) ?_
  intro w4 hU4 hO4
  have hO4 : Owns w4 (askF b3 b5 b6 vh vw wt) := hO4.sub (List.sublist_cons_self ..)
  obtain ⟨-, -, cl⟩ := tab_cells (hO4.at_ 2 rfl)
  obtain ⟨d0, d1⟩ := wt_cells (hO4.at_ 1 rfl)
  rw [bool_var]
  refine ⟨fun his => ?_, fun his => ?_⟩
  · rw [hask, if_pos his]; exact rAsk_same hh hw hU4 hO4 hb6
  rw [if_neg (by rw [his]; exact Bool.false_ne_true)] at hask
  rw [step_run (run_sLoad cl)]
  simp (disch := first | assumption | omega) only [PX, BX, LX, add_mk, Nat.reduceAdd]
  refine st_call (rMode_spec (hT.mono hU4) x wt.name) ?_
  rintro _ w5 ⟨rfl, hU5⟩
  have hO5 := hO4.ext hU5
  have hU5 := hU4.trans hU5
  obtain ⟨-, -, cl⟩ := tab_cells (hO5.at_ 2 rfl)
  obtain ⟨d0, d1⟩ := wt_cells (hO5.at_ 1 rfl)
  simp (disch := first | assumption | omega) only [PX, BX, LX, add_mk, Nat.reduceAdd]
  have k2 : ∀ {w' : World}, Upd w w' [] → Owns w' (askF b3 b5 b6 vh vw wt) → ¬ (modeD D x wt.name ≠ 0 ∧ cov (sureN (modeD D x wt.name)) (sureN wt.mode) = true) → flotillaref13_Ask_k2 (std Tryz.prog) (.int .i64 x) (.pointer (some ⟨b3, 0, none⟩)) (.pointer (some ⟨b5, 0, none⟩)) (.pointer (some ⟨b6, 0, none⟩)) (.int .i64 (modeD D x wt.name)) w' (AskPost w vh vw (askD D x wt)) := fun hU hO hn => by
    rw [if_neg hn] at hask
    refine rAsk_k2 hh hw hlh hl9 hU hO hb6 _ (fun h => ?_) fun h => ?_
    · rw [hask, if_pos h]
    · rw [hask, if_neg h]
  refine ⟨fun hm => ?_, fun hm => k2 hU5 hO5 fun h => h.1 (by simpa using hm)⟩
  refine st_call (rCovers_spec _ _ _) ?_
  rintro _ w6 ⟨rfl, rfl⟩
  rw [bool_var]
  refine ⟨fun hc => ?_, fun hc => k2 hU5 hO5 fun h => by rw [h.2] at hc; cases hc⟩
  rw [hask, if_pos ⟨hm, hc⟩]; exact rAsk_same hh hw hU5 hO5 hb6
end
end Go.Proofs.YtakifgecgmdjcaaGreat

/- The document's locks: lists put in order; the names that one leaves. -/
namespace Go.Proofs.YtakifgecgmdjcaaGreat
open Go Xf Go.RowKit
set_option linter.unusedVariables false
set_option linter.unusedSimpArgs false
set_option maxRecDepth 100000

section
variable {α : Type}
theorem flat_take {k : Nat} {f : α → List Value} (hf : ∀ x, (f x).length = k) : ∀ (l : List α) (i : Nat), (l.take i).flatMap f = (l.flatMap f).take (i * k)
  | [], i => by simp
  | x :: l, 0 => by simp
  | x :: l, i + 1 => by
    rw [List.take_succ_cons, List.flatMap_cons, List.flatMap_cons, flat_take hf l i, List.take_append, hf, Nat.succ_mul, Nat.add_sub_cancel, List.take_of_length_le (l := f x) (by rw [hf]; omega)]
theorem flat_drop {k : Nat} {f : α → List Value} (hf : ∀ x, (f x).length = k) : ∀ (l : List α) (i : Nat), (l.drop i).flatMap f = (l.flatMap f).drop (i * k)
  | [], i => by simp
  | x :: l, 0 => by simp
  | x :: l, i + 1 => by
    rw [List.drop_succ_cons, List.flatMap_cons, flat_drop hf l i, List.drop_append, hf, Nat.succ_mul, Nat.add_sub_cancel, List.drop_of_length_le (l := f x) (by rw [hf]; omega), List.nil_append]
/-- one put in its place -/
def insAt (l : List α) (k : Nat) (x : α) : List α := l.take k ++ [x] ++ l.drop k
theorem mem_insAt {l : List α} {k : Nat} {x y : α} : y ∈ insAt l k x ↔ y = x ∨ y ∈ l := by
  unfold insAt
  rw [List.mem_append, List.mem_append, List.mem_singleton]
  constructor
  · rintro ((h | h) | h)
    · exact .inr (List.mem_of_mem_take h)
    · exact .inl h
    · exact .inr (List.mem_of_mem_drop h)
  · rintro (h | h)
    · exact .inl (.inr h)
    · rw [← List.take_append_drop k l] at h
      rcases List.mem_append.1 h with h | h
      · exact .inl (.inl h)
      · exact .inr h
theorem insAt_len {l : List α} {k : Nat} (x : α) : (insAt l k x).length = l.length + 1 := by
  unfold insAt; simp only [List.length_append, List.length_take, List.length_drop, List.length_singleton]; omega
theorem insAt_pw {R : α → α → Prop} (htr : ∀ a b c, R a b → R b c → R a c) {l : List α} {k : Nat} {x : α} (h : l.Pairwise R) (h1 : ∀ y ∈ l.take k, R y x) (h2 : ∀ (hk : k < l.length), R x l[k]) : (insAt l k x).Pairwise R := by
  have h3 : ∀ y ∈ l.drop k, R x y := fun y hy => by
    rcases Nat.lt_or_ge k l.length with hk | hk
    · rw [List.drop_eq_getElem_cons hk] at hy
      rcases List.mem_cons.1 hy with rfl | hy
      · exact h2 hk
      · have hp := h.sublist (List.drop_sublist k l)
        rw [List.drop_eq_getElem_cons hk, List.pairwise_cons] at hp
        exact htr _ _ _ (h2 hk) (hp.1 y hy)
    · rw [List.drop_of_length_le hk] at hy; cases hy
  unfold insAt
  rw [List.append_assoc, List.pairwise_append]
  refine ⟨h.sublist (List.take_sublist k l), ?_, fun a ha b hb => ?_⟩
  · rw [List.singleton_append, List.pairwise_cons]
    exact ⟨h3, h.sublist (List.drop_sublist k l)⟩
  · rw [List.singleton_append, List.mem_cons] at hb
    rcases hb with rfl | hb
    · exact h1 a ha
    · exact htr _ _ _ (h1 a ha) (h3 b hb)
variable {W w w' : World} {F : List (Nat × Obj)} {K : Value → World → Prop}
theorem OutG.take {ts t : TypeId} {k : Nat} {f : α → List Value} {V : α → Value} (hk : Kind ts t k f V) (hsz : (Tryz.prog.info? t).map (·.size) = some k) {v : Value} {out : List α} (hr : RdS w f k v out) (hU : Upd W w []) (hO : Owns w F) {i : Nat} (hi : i ≤ out.length) (hl : out.length ≤ 1000000)
    (hK : ∀ v' w', OutG t k f W F (out.take i) v' w' → K v' w') : (std Tryz.prog).step (sSlice ts v none (some (.int .i64 (i : Nat))) none) w fun u w => (std Tryz.prog).step (sBuiltin .append #[ts, ts] ts [false, false] [.slice none 0 0, u]) w K := by
  obtain ⟨A, c, rfl, hm, hrd⟩ := hr
  have hc : out.length ≤ c := by
    obtain ⟨A', c', h1, h2, -⟩ := hrd
    injection h1 with _ _ h3
    omega
  rw [step_run (run_sliceTo (i := ((i : Nat) : Int)) hk.u hsz (by omega) (by omega)), show ((i : Nat) : Int).toNat = i by omega]
  have := hrd.take hi
  rw [← flat_take hk.len] at this
  have hlt : (out.take i).length = i := by rw [List.length_take]; omega
  refine (OutG.nil_ (f := f) (t := t) (k := k) hU hO).app hk (ys := out.take i) (by rw [hlt]; exact this) (by simp; omega) ?_
  intro v' w' h
  exact hK v' w' (by rw [List.nil_append] at h; exact h)
theorem OutG.drop {ts t : TypeId} {k : Nat} {f : α → List Value} {V : α → Value} (hk : Kind ts t k f V) (hsz : (Tryz.prog.info? t).map (·.size) = some k) {v u : Value} {out l : List α} (hG : OutG t k f W F l u w) (hr : RdS w f k v out) {i : Nat} (hi : i ≤ out.length) (hl : out.length ≤ 1000000) (hl2 : l.length ≤ 1000002)
    (hK : ∀ v' w', OutG t k f W F (l ++ out.drop i) v' w' → K v' w') : (std Tryz.prog).step (sSlice ts v (some (.int .i64 (i : Nat))) none none) w fun u2 w => (std Tryz.prog).step (sBuiltin .append #[ts, ts] ts [false, false] [u, u2]) w K := by
  obtain ⟨A, c, rfl, hm, hrd⟩ := hr
  have hc : out.length ≤ c := by
    obtain ⟨A', c', h1, h2, -⟩ := hrd
    injection h1 with _ _ h3
    omega
  rw [step_run (run_sliceFrom (i := ((i : Nat) : Int)) hk.u hsz (by omega) (by omega) hc), show ((i : Nat) : Int).toNat = i by omega]
  have := hrd.drop hi
  rw [← flat_drop hk.len] at this
  have hlt : (out.drop i).length = out.length - i := List.length_drop
  exact hG.app hk (ys := out.drop i) (by rw [hlt]; exact this) (by rw [hlt]; omega) hK
end
section
variable {W w w' : World} {F : List (Nat × Obj)} {K : Value → World → Prop}
theorem st_at {v : Value} {l : List (List UInt8)} {i : Nat} (hr : RdS W stV 1 v l) (hi : i < l.length) : ∃ a c, v = .slice (some a) l.length c ∧ ∀ w', Upd W w' [] → w'.cell? (a.add i) = some (strV l[i]) := by
  obtain ⟨A, c, rfl, hm, hrd⟩ := hr
  obtain ⟨a, rfl, hx⟩ := Rd.row (f := stV) (k := 1) (fun _ => rfl) (by omega) hrd hi
  have e : ((i : Nat) : Int).toNat = i := by omega
  rw [e] at hx
  exact ⟨a, c, rfl, fun w' hU => by have := hx w' hU 0 _ rfl; rw [Nat.mul_one, Nat.add_zero] at this; exact this⟩
/-- the names of one's rows, so far -/
def NamesIn (x : Int) (l : List Rw) (out : List (List UInt8)) : Prop := out.Pairwise (· < ·) ∧ (∀ s, s ∈ out ↔ ∃ r ∈ l, r.txn = x ∧ r.name = s) ∧ out.length ≤ l.length
theorem NamesIn.skip {x : Int} {l : List Rw} {i : Nat} {out : List (List UInt8)} (hi : i < l.length) (h : NamesIn x (l.take i) out) (hx : l[i].txn ≠ x ∨ l[i].name ∈ out) : NamesIn x (l.take (i + 1)) out := by
  obtain ⟨h1, h2, h3⟩ := h
  rw [List.take_succ_eq_append_getElem hi]
  refine ⟨h1, fun s => ?_, by rw [List.length_append]; omega⟩
  rw [h2]
  constructor
  · rintro ⟨r, hr, hh⟩; exact ⟨r, List.mem_append_left _ hr, hh⟩
  · rintro ⟨r, hr, h4, h5⟩
    rcases List.mem_append.1 hr with hr | hr
    · exact ⟨r, hr, h4, h5⟩
    · rw [List.mem_singleton] at hr
      subst hr
      rcases hx with hx | hx
      · exact absurd h4 hx
      · rw [h5] at hx; exact (h2 s).1 hx
theorem NamesIn.put {x : Int} {l : List Rw} {i k : Nat} {out : List (List UInt8)} (hi : i < l.length) (h : NamesIn x (l.take i) out) (hx : l[i].txn = x) (h1 : ∀ s ∈ out.take k, s < l[i].name) (h2 : ∀ (hk : k < out.length), ¬ out[k] < l[i].name ∧ out[k] ≠ l[i].name) : NamesIn x (l.take (i + 1)) (insAt out k l[i].name) := by
  obtain ⟨g1, g2, g3⟩ := h
  rw [List.take_succ_eq_append_getElem hi]
  refine ⟨insAt_pw (R := fun a b : List UInt8 => a < b) (fun a b c h1 h2 => List.lt_trans h1 h2) g1 h1 fun hk => ?_, fun s => ?_, by rw [insAt_len, List.length_append, List.length_singleton]; omega⟩
  · obtain ⟨a, b⟩ := h2 hk
    exact Classical.byContradiction fun hn => b (List.le_antisymm hn a)
  · rw [mem_insAt, g2]
    constructor
    · rintro (rfl | ⟨r, hr, hh⟩)
      · exact ⟨l[i], List.mem_append_right _ (List.mem_singleton.2 rfl), hx, rfl⟩
      · exact ⟨r, List.mem_append_left _ hr, hh⟩
    · rintro ⟨r, hr, h4, h5⟩
      rcases List.mem_append.1 hr with hr | hr
      · exact .inr ⟨r, hr, h4, h5⟩
      · rw [List.mem_singleton] at hr; subst hr; exact .inl h5.symm
/-- names, behind the search -/
theorem rNames_k5 {x : Int} {l : List Rw} {u8 : Value} {out : List (List UInt8)} {i k : Nat} {vs : List Value} {again : List Value → World → Prop} {Q : Value → World → Prop} (hU : Upd W w []) (hr : RdS W rwV 4 u8 l) (ho : RdS w stV 1 (vs.getD 0 undef) out) (hi : i < l.length) (hl : l.length ≤ 900000) (hout : out.length ≤ 900000) (hk : k ≤ out.length) (e1 : vs.getD 1 undef = .int .i64 (i : Nat))
    (hK : ∀ u w', Upd W w' [] → RdS w' stV 1 u (insAt out k l[i].name) → again [u, .int .i64 ((i + 1 : Nat) : Int)] w') : flotillaref13_names_k5 (std Tryz.prog) u8 vs again (.int .i64 (k : Nat)) w Q := by
  unfold flotillaref13_names_k5 flotillaref13_names_k3
  refine OutG.take kind_st sz9 (W := w) (F := []) ho (Upd.refl w []) (Owns.nil w) hk (by omega) ?_
  intro v1 w1 hG1
  obtain ⟨a, c, rfl, hc⟩ := rw_at hr hi
  obtain ⟨-, k1, -, -, -⟩ := hc w1 (hU.trans hG1.U)
  simp (disch := first | assumption | omega) only [e1, PX, LX, add_add']
  refine hG1.push kind_st (by simp; omega) l[i].name ?_
  intro v2 w2 hG2
  refine hG2.drop kind_st sz9 (ho.mono hG2.U) hk (by omega) (by simp; omega) ?_
  intro v3 w3 hG3
  simp (disch := first | assumption | omega) only [e1, PX, w64]
  exact hK v3 w3 (hU.trans hG3.U) (hG3.rd (by simp; omega))
theorem rNames_k4 {x : Int} {l : List Rw} {u8 : Value} {out : List (List UInt8)} {i k : Nat} {vs : List Value} {again : List Value → World → Prop} {Q : Value → World → Prop} (hU : Upd W w []) (hr : RdS W rwV 4 u8 l) (ho : RdS w stV 1 (vs.getD 0 undef) out) (hi : i < l.length) (hl : l.length ≤ 900000) (hout : out.length ≤ 900000) (hk : k ≤ out.length) (e1 : vs.getD 1 undef = .int .i64 (i : Nat))
    (hN : NamesIn x (l.take i) out) (hx : l[i].txn = x) (h1 : ∀ s ∈ out.take k, s < l[i].name) (h2 : ∀ (hk : k < out.length), ¬ out[k] < l[i].name)
    (hK : ∀ u w' out', Upd W w' [] → RdS w' stV 1 u out' → NamesIn x (l.take (i + 1)) out' → again [u, .int .i64 ((i + 1 : Nat) : Int)] w') : flotillaref13_names_k4 (std Tryz.prog) u8 vs again (.int .i64 (k : Nat)) w Q := by
  unfold flotillaref13_names_k4
  obtain ⟨A, c, hA, hol⟩ := rdS_len ho
  have hUd := hU.trans (Upd.drew w [])
  have hod := ho.mono (Upd.drew w [])
  have hne : ∃ w', (fun w' => Upd w.drew w' []) w' := ⟨_, Upd.refl _ _⟩
  refine st_draw (fun w' => Upd w.drew w' []) (Upd.refl _ _) ?_
  have put : (∀ (hk : k < out.length), out[k] ≠ l[i].name) → flotillaref13_names_k5 (std Tryz.prog) u8 vs again (.int .i64 (k : Nat)) w.drew Q := fun h3 => by
    refine rNames_k5 (x := x) hUd hr hod hi hl hout hk e1 fun u w' hu hrd => hK u w' _ hu hrd (hN.put hi hx h1 fun hk => ⟨h2 hk, h3 hk⟩)
  rw [hA]
  simp (disch := first | exact hne | assumption | omega) only [SX]
  rw [bool_dec]
  refine ⟨fun hlt => ?_, fun hge => put fun hk => absurd (by omega : ((k : Nat) : Int) < (out.length : Nat)) hge⟩
  have hk' : k < out.length := by omega
  obtain ⟨a, c', q1, hc⟩ := st_at hod hk'
  rw [hA] at q1
  injection q1 with q1; subst q1
  obtain ⟨a2, c2, rfl, hc2⟩ := rw_at hr hi
  have g0 : ∀ w', Upd w.drew w' [] → w'.cell? (a.add k) = some (strV out[k]) := fun w' h => hc w' h
  have g1 : ∀ w', Upd w.drew w' [] → w'.cell? (a2.add (i * 4 + 1)) = some (strV l[i].name) := fun w' h => (hc2 w' (hUd.trans h)).2.1
  clear hc hc2
  simp (disch := first | exact hne | assumption | omega) only [e1, SX, SLX, add_add', mk_inj, Nat.mul_one]
  rw [bool_dec]
  refine ⟨fun heq => ?_, fun hneq => put fun _ => hneq⟩
  unfold flotillaref13_names_k3
  simp (disch := first | assumption | omega) only [e1, PX, w64]
  exact hK _ _ out hUd (by rw [← hA]; exact hod) (hN.skip hi (.inr (by rw [← heq]; exact List.getElem_mem hk')))
theorem rNames_k1 {x : Int} {l : List Rw} {u8 : Value} {W0 : World} (hU0 : Upd W0 W []) (hU : Upd W w []) (hr : RdS W rwV 4 u8 l) (hl : l.length ≤ 900000) :
    flotillaref13_names_k1 (std Tryz.prog) (.int .i64 x) u8 w fun u w' => ∃ out, RdS w' stV 1 u out ∧ Upd W0 w' [] ∧ NamesIn x l out := by
  unfold flotillaref13_names_k1 flotillaref13_names_k2
  obtain ⟨A, c, hA, hll⟩ := rdS_len hr
  refine st_loop (fun vs w' => ∃ (i : Nat) (out : List (List UInt8)), i ≤ l.length ∧ vs.getD 1 undef = .int .i64 i ∧ RdS w' stV 1 (vs.getD 0 undef) out ∧ Upd W w' [] ∧ NamesIn x (l.take i) out) (fun vs _ => l.length - (intOf (vs.getD 1 undef)).toNat) ⟨0, [], Nat.zero_le _, rfl, ⟨none, 0, rfl, Nat.zero_le _, Rd.nil_ _ _⟩, hU, List.Pairwise.nil, fun s => by simp, Nat.le_refl _⟩ ?_
  rintro dv vs w2 - ⟨i, out, hi, e1, ho, hU2, hN⟩
  have hout : out.length ≤ 900000 := by have := hN.2.2; have := List.length_take_le i l; omega
  rw [hA]
  simp (disch := first | assumption | omega) only [e1, PX, BX]
  refine ⟨fun hlt => ?_, fun hge => ?_⟩
  rotate_left
  · obtain rfl : i = l.length := by omega
    rw [List.take_length] at hN
    exact ⟨out, ho, hU0.trans hU2, hN⟩
  have hi' : i < l.length := by omega
  obtain ⟨a, c', q1, hc⟩ := rw_at hr hi'
  rw [hA] at q1
  injection q1 with q1; subst q1
  obtain ⟨k0, -, -, -, -⟩ := hc w2 hU2
  simp (disch := first | assumption | omega) only [PX, BX, LX, add_add']
  refine ⟨fun hx => ?_, fun hx => ?_⟩
  · unfold flotillaref13_names_k3
    simp (disch := first | assumption | omega) only [e1, PX, w64]
    refine ⟨⟨i + 1, out, by omega, rfl, ho, hU2, hN.skip hi' (.inl hx)⟩, ?_⟩
    simp only [List.getD_cons_succ, List.getD_cons_zero, intOf]; omega
  have hx : l[i].txn = x := Classical.not_not.1 hx
  obtain ⟨A2, c2, hA2, hol⟩ := rdS_len ho
  have fin : ∀ {w' : World} (k : Nat), Upd w2 w' [] → k ≤ out.length → (∀ s ∈ out.take k, s < l[i].name) → (∀ (hk : k < out.length), ¬ out[k] < l[i].name) → flotillaref13_names_k4 (std Tryz.prog) u8 vs (fun vs' w' => (∃ (i : Nat) (out : List (List UInt8)), i ≤ l.length ∧ vs'.getD 1 undef = .int .i64 i ∧ RdS w' stV 1 (vs'.getD 0 undef) out ∧ Upd W w' [] ∧ NamesIn x (l.take i) out) ∧ l.length - (intOf (vs'.getD 1 undef)).toNat < l.length - (intOf (Value.int .i64 i)).toNat) (.int .i64 (k : Nat)) w' fun u w' => ∃ out, RdS w' stV 1 u out ∧ Upd W0 w' [] ∧ NamesIn x l out := fun k hu hk h1 h2 => by
    refine rNames_k4 (hU2.trans hu) hr (ho.mono hu) hi' hl hout hk e1 hN hx h1 h2 fun u w' out' h3 h4 h5 => ?_
    refine ⟨⟨i + 1, out', by omega, rfl, h4, h3, h5⟩, ?_⟩
    simp only [List.getD_cons_succ, List.getD_cons_zero, intOf]; omega
  rw [← hA]
  refine st_loop (fun vs2 w' => ∃ k : Nat, k ≤ out.length ∧ vs2.getD 0 undef = .int .i64 k ∧ Upd w2 w' [] ∧ ∀ s ∈ out.take k, s < l[i].name) (fun vs2 _ => out.length - (intOf (vs2.getD 0 undef)).toNat) ⟨0, Nat.zero_le _, rfl, Upd.refl _ _, by simp⟩ ?_
  rintro dv2 vs2 w3 - ⟨k, hk, f0, hU3, hsm⟩
  have hod := ho.mono (hU3.trans (Upd.drew w3 []))
  have hUd := hU3.trans (Upd.drew w3 [])
  have hne : ∃ w', (fun w' => Upd w3.drew w' []) w' := ⟨_, Upd.refl _ _⟩
  refine st_draw (fun w' => Upd w3.drew w' []) (Upd.refl _ _) ?_
  rw [f0, hA2]
  simp (disch := first | exact hne | assumption | omega) only [SX]
  rw [bool_dec]
  refine ⟨fun hlt => ?_, fun hge => fin k hUd hk hsm fun hk => absurd (by omega : ((k : Nat) : Int) < (out.length : Nat)) hge⟩
  have hk' : k < out.length := by omega
  obtain ⟨a5, c5, q5, hc5⟩ := st_at hod hk'
  rw [hA2] at q5
  injection q5 with q5; subst q5
  have g0 : ∀ w', Upd w3.drew w' [] → w'.cell? (a5.add k) = some (strV out[k]) := fun w' h => hc5 w' h
  have g1 : ∀ w', Upd w3.drew w' [] → w'.cell? (a.add (i * 4 + 1)) = some (strV l[i].name) := fun w' h => (hc w' ((hU2.trans hUd).trans h)).2.1
  rw [hA]
  simp (disch := first | exact hne | assumption | omega) only [e1, SX, SLX, add_add', mk_inj, Nat.mul_one]
  rw [stepS_run hne fun w' _ => r_slss, bool_dec]
  refine ⟨fun hls => ?_, fun hls => ?_⟩
  · simp (disch := first | assumption | omega) only [f0, PX, w64]
    refine ⟨⟨k + 1, by omega, rfl, hUd, fun s hs => ?_⟩, ?_⟩
    · rw [List.take_succ_eq_append_getElem hk'] at hs
      rcases List.mem_append.1 hs with hs | hs
      · exact hsm s hs
      · rw [List.mem_singleton] at hs; subst hs; exact hls
    · simp only [List.getD_cons_succ, List.getD_cons_zero, intOf]; omega
  · rw [← hA]
    exact fin k hUd hk hsm fun _ => hls
end
end Go.Proofs.YtakifgecgmdjcaaGreat

/- The document's locks: who goes; the pieces. -/
namespace Go.Proofs.YtakifgecgmdjcaaGreat
open Go Xf Go.RowKit
set_option linter.unusedVariables false
set_option linter.unusedSimpArgs false
set_option maxRecDepth 100000

section
variable {α : Type} {W w w' : World} {F : List (Nat × Obj)} {K : Value → World → Prop} {D : Rt} {v : Value}
theorem OutG.put1 {t : TypeId} {k : Nat} {f : α → List Value} {l : List α} {v : Value} (h : OutG t k f W F l v w) {tt e : TypeId} {g off : Nat} {cs : Array Value} {u : Value} (hn : (Tryz.prog.info? tt).map (·.size) = some 1) (hv : oneB u = true) (j : Nat) (hj : F[j]? = some (g, .cells cs e (0, 0))) (hoff : off < cs.size) (hg : W.heap.size ≤ g)
    (hK : ∀ w', OutG t k f W (F.set j (g, .cells (cs.setIfInBounds off u) e (0, 0))) l v w' → Upd w w' [g] → K undef w') : (std Tryz.prog).step (sStore tt (.pointer (some ⟨g, off, none⟩)) u) w K := by
  obtain ⟨hr, hrow, hO, hU, hm⟩ := h
  refine st_storeB hn hv (Upd.refl w [g]) hO (hr.length + j) (by rw [List.getElem?_append_right (by omega), Nat.add_sub_cancel_left]; exact hj) hoff (.inr (Nat.zero_le _)) (.inl (List.mem_singleton.2 rfl)) ?_
  intro w' hU' hO'
  refine hK w' ⟨hr, hrow, ?_, hU.then_ hU' fun y hy => by rw [List.mem_singleton] at hy; subst hy; exact .inr hg, hm⟩ hU'
  rw [List.set_append_right _ _ (by omega), Nat.add_sub_cancel_left] at hO'
  exact hO'
theorem OutG.putN {t : TypeId} {k : Nat} {f : α → List Value} {l : List α} {v : Value} (h : OutG t k f W F l v w) {tt e : TypeId} {g off : Nat} {cs : Array Value} {vs : List Value} (hn : (Tryz.prog.info? tt).map (·.size) = some vs.length) (j : Nat) (hj : F[j]? = some (g, .cells cs e (0, 0))) (hl : off + vs.length ≤ cs.size) (h1 : ∀ u ∈ vs, u.oneCell' = true) (hg : W.heap.size ≤ g)
    (hK : ∀ w', OutG t k f W (F.set j (g, .cells (cs.toList.take off ++ vs ++ cs.toList.drop (off + vs.length)).toArray e (0, 0))) l v w' → Upd w w' [g] → K undef w') : (std Tryz.prog).step (sStore tt (.pointer (some ⟨g, off, none⟩)) (.agg vs.toArray)) w K := by
  obtain ⟨hr, hrow, hO, hU, hm⟩ := h
  refine Go.Proofs.YtakifgecgmdjcaaGreat.st_storeN hn (Upd.refl w [g]) hO (hr.length + j) (by rw [List.getElem?_append_right (by omega), Nat.add_sub_cancel_left]; exact hj) hl h1 (.inl (List.mem_singleton.2 rfl)) ?_
  intro w' hU' hO'
  refine hK w' ⟨hr, hrow, ?_, hU.then_ hU' fun y hy => by rw [List.mem_singleton] at hy; subst hy; exact .inr hg, hm⟩ hU'
  rw [List.set_append_right _ _ (by omega), Nat.add_sub_cancel_left] at hO'
  exact hO'
theorem st_nosl (x : List UInt8) : ∀ y ∈ stV x, ∀ (A : Option Addr) (n c : Nat), y ≠ .slice A n c := by
  intro y hy A n c he
  simp only [stV, List.mem_cons, List.not_mem_nil, or_false] at hy
  subst hy; cases he
def srcD (D : Rt) (all : Bool) : List Rw := if all then D.waits ++ D.has else D.waits
theorem rNames_spec (h : RdT w v D) (hl : D.has.length + D.waits.length ≤ 100000) (x : Int) (all : Bool) : CallsR Tryz.prog 58 #[v, .int .i64 x, .bool all] w fun u w' => ∃ out, RdS w' stV 1 u out ∧ Upd w w' [] ∧ NamesIn x (srcD D all) out := by
  apply flotillaref13_names_sound
  unfold flotillaref13_names_x
  obtain ⟨vh, vw, rfl, hh, hw⟩ := h
  refine st_box (Upd.refl w []) (Owns.nil w) ?_
  intro b w1 hU1 hO1 hb
  have hO1 : Owns w1 [tabBx b vh vw] := hO1
  obtain ⟨A, c, rfl, hlh⟩ := rdS_len hh
  obtain ⟨Aw, cw, rfl, hlw⟩ := rdS_len hw
  obtain ⟨c0, c1, -⟩ := tab_cells (hO1.at_ 0 rfl)
  simp (disch := first | assumption | omega) only [PX, BX, LX, add_mk, Nat.reduceAdd]
  rw [bool_var]
  refine ⟨fun ha => ?_, fun ha => ?_⟩
  rotate_left
  · have : srcD D all = D.waits := by unfold srcD; rw [ha]; rfl
    rw [this]
    exact rNames_k1 (Upd.refl w []) hU1 hw (by omega)
  have hwr : ∀ {w' : World}, Upd w w' [] → Rd w' 4 (.slice Aw D.waits.length cw) D.waits.length (D.waits.flatMap rwV) := fun hU => by
    obtain ⟨A', c', h1, -, hr⟩ := hw
    rw [h1]; exact hr.mono hU
  have hhr : ∀ {w' : World}, Upd w w' [] → Rd w' 4 (.slice A D.has.length c) D.has.length (D.has.flatMap rwV) := fun hU => by
    obtain ⟨A', c', h1, -, hr⟩ := hh
    rw [h1]; exact hr.mono hU
  refine (OutG.nil_ (f := rwV) (t := 85) (k := 4) hU1 hO1).app kind_rw (hwr hU1) (by simp; omega) ?_
  intro v1 w2 hG1
  rw [List.nil_append] at hG1
  obtain ⟨c0, c1, -⟩ := tab_cells (hG1.owns.at_ 0 rfl)
  simp (disch := first | assumption | omega) only [PX, BX, LX, add_mk, Nat.reduceAdd]
  refine hG1.app kind_rw (hhr hG1.U) (by omega) ?_
  intro v2 w3 hG2
  have : srcD D all = D.waits ++ D.has := by unfold srcD; rw [ha]; rfl
  rw [this]
  exact rNames_k1 hG2.U (Upd.refl w3 []) (hG2.rd (by rw [List.length_append]; omega)) (by rw [List.length_append]; omega)
end
/-- those who go in on a name, one behind the other -/
inductive PassT (s : List UInt8) : Rt → List Rw → Rt → Prop
  | stop {D : Rt} : (∀ r l, inD D s = r :: l → goesD D r.txn s r.mode = false) → PassT s D [] D
  | go {D D' : Rt} {r : Rw} {l out : List Rw} : inD D s = r :: l → goesD D r.txn s r.mode = true → PassT s (getT ⟨D.has, waitingD D r.txn⟩ r.txn s r.mode) out D' → PassT s D (r :: out) D'
inductive GoneT : List (List UInt8) → Rt → List Rw → Rt → Prop
  | nil {D : Rt} : GoneT [] D [] D
  | cons {s : List UInt8} {l : List (List UInt8)} {D D1 D2 : Rt} {o1 o2 : List Rw} : PassT s D o1 D1 → GoneT l D1 o2 D2 → GoneT (s :: l) D (o1 ++ o2) D2
def startD (D : Rt) (x : Int) (all : Bool) : Rt := ⟨if all then D.has.filter (fun r => decide (r.txn ≠ x)) else D.has, waitingD D x⟩
theorem inD_mem {D : Rt} {s : List UInt8} {r : Rw} (h : r ∈ inD D s) : r ∈ D.waits ∧ r.name = s := by
  unfold inD tuD roD at h
  rw [List.mem_append, List.mem_filter, List.mem_filter] at h
  rcases h with ⟨h1, h2⟩ | ⟨h1, h2⟩ <;> rw [Bool.and_eq_true] at h2 <;> exact ⟨h1, of_decide_eq_true h2.1⟩
theorem waiting_lt {D : Rt} {r : Rw} (h : r ∈ D.waits) : (waitingD D r.txn).length + 1 ≤ D.waits.length := by
  unfold waitingD
  have : ∀ l : List Rw, r ∈ l → (l.filter fun y => decide (y.txn ≠ r.txn)).length + 1 ≤ l.length := fun l => by
    induction l with
    | nil => intro h; cases h
    | cons y l ih =>
      intro h
      have hle := List.length_filter_le (fun y : Rw => decide (y.txn ≠ r.txn)) l
      rcases List.mem_cons.1 h with rfl | h
      · rw [List.filter_cons_of_neg (by simp), List.length_cons]; omega
      · rw [List.filter_cons]
        split
        · rw [List.length_cons, List.length_cons]; have := ih h; omega
        · rw [List.length_cons]; omega
  exact this _ h
theorem getT_len {D : Rt} {x : Int} {s : List UInt8} {m : Int} : (getT D x s m).has.length ≤ D.has.length + 1 ∧ (getT D x s m).waits = D.waits := by
  refine ⟨?_, rfl⟩
  unfold getT
  rw [List.length_append, List.length_singleton]
  have := List.length_filter_le (fun r : Rw => !isR x s r) D.has
  omega
/-- the table that goes through Gone, and what was put out so far -/
structure GoneS (W : World) (vh0 vw0 : Value) (b3 b6 : Nat) (v17 : Value) (names : List (List UInt8)) (D : Rt) (out : List Rw) (v : Value) (w : World) : Prop where
  ex : ∃ vh vw, OutG 85 4 rwV W [tabBx b3 vh vw, tabBx b6 (.slice none 0 0) (.slice none 0 0)] out v w ∧ RdS w rwV 4 vh D.has ∧ RdS w rwV 4 vw D.waits ∧ Sep v vh D.has ∧ Sep v vw D.waits ∧ (vh = vh0 ∨ Fresh W vh) ∧ (vw = vw0 ∨ Fresh W vw)
  nm : RdS w stV 1 v17 names
  nms : Sep v v17 names
  len : D.has.length + D.waits.length ≤ 100000 ∧ out.length + D.waits.length ≤ 100000
section
variable {W w w' : World} {vh0 vw0 : Value} {b3 b6 : Nat} {v17 : Value} {names : List (List UInt8)} {D : Rt} {out : List Rw} {K : Value → World → Prop} {v : Value}
theorem GoneS.upd (h : GoneS W vh0 vw0 b3 b6 v17 names D out v w) (hU : Upd w w' []) : GoneS W vh0 vw0 b3 b6 v17 names D out v w' := by
  obtain ⟨⟨vh, vw, h1, h2, h3, s1, s2, ff⟩, h4, s3, h5⟩ := h
  exact ⟨⟨vh, vw, h1.upd hU, h2.mono hU, h3.mono hU, s1, s2, ff⟩, h4.mono hU, s3, h5⟩
/-- the waits, written anew -/
theorem GoneS.storeW (h : GoneS W vh0 vw0 b3 b6 v17 names D out v w) (hb3 : W.heap.size ≤ b3) {u : Value} {l : List Rw} (hu : RdS w rwV 4 u l) (hus : Sep v u l) (hfu : Fresh W u) (hl : l.length + 1 ≤ D.waits.length)
    (hK : ∀ w', GoneS W vh0 vw0 b3 b6 v17 names ⟨D.has, l⟩ out v w' → (∀ (α : Type) (f : α → List Value) (k : Nat) (v : Value) (l : List α), (∀ x, ∀ y ∈ f x, ∀ (A : Option Addr) (n c : Nat), y ≠ .slice A n c) → RdS w f k v l → RdS w' f k v l) → K undef w') : (std Tryz.prog).step (sStore 25 (.pointer (some ⟨b3, 1, none⟩)) u) w K := by
  obtain ⟨⟨vh, vw, h1, h2, h3, s1, s2, ff1, ff2⟩, h4, s3, h5, h6⟩ := h
  obtain ⟨A, c, rfl, -⟩ := rdS_len h2
  obtain ⟨Aw, cw, rfl, -⟩ := rdS_len h3
  obtain ⟨Au, cu, hAu, -⟩ := rdS_len hu
  subst hAu
  have hb := h1.owns.at_ 0 rfl
  refine h1.put1 sz25 rfl 0 rfl (by show 1 < 2; decide) hb3 ?_
  intro w' hG hU
  have keep : ∀ (α : Type) (f : α → List Value) (k : Nat) (v : Value) (l : List α), (∀ x, ∀ y ∈ f x, ∀ (A : Option Addr) (n c : Nat), y ≠ .slice A n c) → RdS w f k v l → RdS w' f k v l := fun α f k v l hf hr => RdS.keep hf hr hb hU
  refine hK w' ⟨⟨_, _, hG, keep _ _ _ _ _ rw_nosl h2, keep _ _ _ _ _ rw_nosl hu, s1, hus, ff1, .inr hfu⟩, keep _ _ _ _ _ st_nosl h4, s3, ?_, ?_⟩ keep
  · show D.has.length + l.length ≤ 100000; omega
  · show out.length + l.length ≤ 100000; omega
/-- the table, written anew -/
theorem GoneS.storeT (h : GoneS W vh0 vw0 b3 b6 v17 names D out v w) (hb3 : W.heap.size ≤ b3) {u : Value} {D' : Rt} (hu : RdT w u D') (hus : ∀ uh uw, u = rtV uh uw → Sep v uh D'.has ∧ Sep v uw D'.waits ∧ (uh = vh0 ∨ Fresh W uh) ∧ (uw = vw0 ∨ Fresh W uw)) (hl : D'.has.length + D'.waits.length ≤ 100000 ∧ out.length + D'.waits.length ≤ 100000)
    (hK : ∀ w', GoneS W vh0 vw0 b3 b6 v17 names D' out v w' → (∀ (α : Type) (f : α → List Value) (k : Nat) (v : Value) (l : List α), (∀ x, ∀ y ∈ f x, ∀ (A : Option Addr) (n c : Nat), y ≠ .slice A n c) → RdS w f k v l → RdS w' f k v l) → K undef w') : (std Tryz.prog).step (sStore 27 (.pointer (some ⟨b3, 0, none⟩)) u) w K := by
  obtain ⟨⟨vh, vw, h1, h2, h3, s1, s2, -⟩, h4, s3, -⟩ := h
  obtain ⟨A, c, rfl, -⟩ := rdS_len h2
  obtain ⟨Aw, cw, rfl, -⟩ := rdS_len h3
  obtain ⟨uh, uw, rfl, g2, g3⟩ := hu
  obtain ⟨t1, t2, t3⟩ := hus _ _ rfl
  have hb := h1.owns.at_ 0 rfl
  refine h1.putN (vs := [uh, uw]) (by rw [sz27]; rfl) 0 rfl (by show 0 + 2 ≤ 2; decide) (fun y hy => by simp only [List.mem_cons, List.not_mem_nil, or_false] at hy; rcases hy with rfl | rfl; exact rdS_one g2; exact rdS_one g3) hb3 ?_
  intro w' hG hU
  have keep : ∀ (α : Type) (f : α → List Value) (k : Nat) (v : Value) (l : List α), (∀ x, ∀ y ∈ f x, ∀ (A : Option Addr) (n c : Nat), y ≠ .slice A n c) → RdS w f k v l → RdS w' f k v l := fun α f k v l hf hr => RdS.keep hf hr hb hU
  exact hK w' ⟨⟨_, _, hG, keep _ _ _ _ _ rw_nosl g2, keep _ _ _ _ _ rw_nosl g3, t1, t2, t3⟩, keep _ _ _ _ _ st_nosl h4, s3, hl⟩ keep
theorem GoneS.tab (h : GoneS W vh0 vw0 b3 b6 v17 names D out v w) : ∃ vt vh vw, vt = rtV vh vw ∧ Sep v vh D.has ∧ Sep v vw D.waits ∧ (vw = vw0 ∨ Fresh W vw) ∧ RdT w vt D ∧ Upd W w [] ∧ ∀ w', Upd w w' [] → (loadVar 27 ⟨b3, 0, none⟩).run Tryz.prog w' = .ok vt w' := by
  obtain ⟨⟨vh, vw, h1, h2, h3, s1, s2, ff1, ff2⟩, h4, s3, h5⟩ := h
  exact ⟨_, vh, vw, rfl, s1, s2, ff2, ⟨vh, vw, rfl, h2, h3⟩, h1.U, fun w' hU => (tab_cells ((h1.owns.ext hU).at_ 0 rfl)).2.2⟩
theorem GoneS.sep (h : GoneS W vh0 vw0 b3 b6 v17 names D out v w) {β : Type} {u : Value} {l : List β} (hf : Fresh w u) : Sep v u l := by
  obtain ⟨⟨vh, vw, h1, -⟩, -⟩ := h
  exact h1.sep hf
end
end Go.Proofs.YtakifgecgmdjcaaGreat

/- The document's locks: who goes, whole. -/
namespace Go.Proofs.YtakifgecgmdjcaaGreat
open Go Xf Go.RowKit
set_option linter.unusedVariables false
set_option linter.unusedSimpArgs false
set_option maxRecDepth 100000

def GoneQ (W : World) (vh0 vw0 : Value) (names : List (List UInt8)) (D0 : Rt) (u : Value) (w' : World) : Prop := ∃ out D' vh' vw' vo, u = .tuple #[rtV vh' vw', vo] ∧ (vh' = vh0 ∨ Fresh W vh') ∧ (vw' = vw0 ∨ Fresh W vw') ∧ RdT w' (rtV vh' vw') D' ∧ RdS w' rwV 4 vo out ∧ GoneT names D0 out D' ∧ Upd W w' [] ∧ out.length ≤ 100000 ∧ Fresh W vo
section
variable {W w w' : World} {vh0 vw0 : Value} {b3 b6 : Nat} {v17 : Value} {names : List (List UInt8)} {D D0 : Rt} {out : List Rw} {K : Value → World → Prop} {v : Value}
theorem rw_first {v : Value} {l : List Rw} (hr : RdS W rwV 4 v l) (h0 : 0 < l.length) : ∃ a c, v = .slice (some a) l.length c ∧ ∀ w', Upd W w' [] → w'.cell? (a.add (0 * 4 + 0)) = some (.int .i64 l[0].txn) ∧ w'.cell? (a.add (0 * 4 + 2)) = some (.int .i64 l[0].mode) ∧ (loadVar 85 (a.add (0 * 4))).run Tryz.prog w' = .ok (rwA l[0]) w' := by
  obtain ⟨a, c, h1, h2⟩ := rw_at hr h0
  exact ⟨a, c, h1, fun w' hU => ⟨(h2 w' hU).1, (h2 w' hU).2.2.1, (h2 w' hU).2.2.2.2⟩⟩
/-- one goes in -/
theorem rGone_go {i : Nat} {v59 v : Value} {r : Rw} {l : List Rw} {R : Value → World → Prop} (h : GoneS W vh0 vw0 b3 b6 v17 names D out v w) (hb3 : W.heap.size ≤ b3) (hi : i < names.length) (hin : RdS w rwV 4 v59 (inD D names[i])) (hrl : inD D names[i] = r :: l)
    (hK : ∀ v' w', GoneS W vh0 vw0 b3 b6 v17 names (getT ⟨D.has, waitingD D r.txn⟩ r.txn names[i] r.mode) (out ++ [r]) v' w' → R v' w') :
  (std Tryz.prog).draw w fun S_5 w =>
  (std Tryz.prog).stepS S_5 (sLoad 27 (.pointer (some ⟨b3, 0, none⟩))) fun v80_1 =>
  (std Tryz.prog).stepS S_5 (sIndexAddr 25 v59 (.int .i64 0)) fun v82_1 =>
  (std Tryz.prog).stepS S_5 (sFieldAddr 85 v82_1 0) fun v83_1 =>
  (std Tryz.prog).stepS S_5 (sLoad 3 v83_1) fun v84_1 =>
  (std Tryz.prog).calls 59 #[v80_1, v84_1] w fun v85_1 w =>
  (std Tryz.prog).keepT w fun S_6 =>
  (std Tryz.prog).stepS S_6 (sFieldAddr 27 (.pointer (some ⟨b3, 0, none⟩)) 1) fun v86_1 =>
  (std Tryz.prog).step (sStore 25 v86_1 v85_1) w fun vx_3 w =>
  (std Tryz.prog).keepT w fun S_7 =>
  (std Tryz.prog).draw w fun S_8 w =>
  (std Tryz.prog).stepS S_8 (sLoad 27 (.pointer (some ⟨b3, 0, none⟩))) fun v87_1 =>
  (std Tryz.prog).stepS S_8 (sIndexAddr 25 v59 (.int .i64 0)) fun v89_1 =>
  (std Tryz.prog).stepS S_8 (sFieldAddr 85 v89_1 0) fun v90_1 =>
  (std Tryz.prog).stepS S_8 (sLoad 3 v90_1) fun v91_1 =>
  (std Tryz.prog).stepS S_8 (sIndexAddr 109 v17 (.int .i64 (i : Nat))) fun v94_1 =>
  (std Tryz.prog).stepS S_8 (sLoad 9 v94_1) fun v95_1 =>
  (std Tryz.prog).stepS S_8 (sIndexAddr 25 v59 (.int .i64 0)) fun v97_1 =>
  (std Tryz.prog).stepS S_8 (sFieldAddr 85 v97_1 2) fun v98_1 =>
  (std Tryz.prog).stepS S_8 (sLoad 29 v98_1) fun v99_1 =>
  (std Tryz.prog).calls 57 #[v87_1, v91_1, v95_1, v99_1] w fun v100_1 w =>
  (std Tryz.prog).keepT w fun S_9 =>
  (std Tryz.prog).step (sStore 27 (.pointer (some ⟨b3, 0, none⟩)) v100_1) w fun vx_4 w =>
  (std Tryz.prog).keepT w fun S_10 =>
  (std Tryz.prog).step (sIndexAddr 25 v59 (.int .i64 0)) w fun v103_1 w =>
  (std Tryz.prog).step (sLoad 85 v103_1) w fun v104_1 w =>
  (std Tryz.prog).step (sBuildSlice 25 1 [(0, v104_1)]) w fun v105_1 w =>
  (std Tryz.prog).step (sBuiltin .append #[25, 25] 25 [false, false] [v, v105_1]) w R := by
  have hr : r ∈ D.waits ∧ r.name = names[i] := inD_mem (by rw [hrl]; exact List.mem_cons_self ..)
  have hwl := waiting_lt hr.1
  obtain ⟨hlen1, hlen2⟩ := h.len
  have h0 : 0 < (inD D names[i]).length := by rw [hrl]; simp
  have hr0 : (inD D names[i])[0] = r := by simp only [hrl, List.getElem_cons_zero]
  have z0 : (Value.int .i64 0) = .int .i64 ((0 : Nat) : Int) := rfl
  have hd := h.upd (Upd.drew w [])
  have hind := hin.mono (Upd.drew w [])
  obtain ⟨vt, _, _, -, -, -, -, hvt, hUW, hld⟩ := hd.tab
  obtain ⟨a, c, rfl, hc⟩ := rw_first hind h0
  have hne : ∃ w', (fun w' => Upd w.drew w' []) w' := ⟨_, Upd.refl _ _⟩
  refine st_draw (fun w' => Upd w.drew w' []) (Upd.refl _ _) ?_
  have g0 : ∀ w', Upd w.drew w' [] → w'.cell? (a.add (0 * 4 + 0)) = some (.int .i64 r.txn) := fun w' h => by rw [← hr0]; exact (hc w' h).1
  rw [stepS_run hne fun w' hs => run_sLoad (hld w' hs), z0]
  simp (disch := first | exact hne | assumption | omega) only [SX, SLX, add_add']
  refine st_call (rWaiting_spec hvt (by omega) r.txn) ?_
  rintro u w1 ⟨hu, hU1, hfu⟩
  have h1 := hd.upd hU1
  have hus : Sep v u (waitingD D r.txn) := hd.sep hfu
  have hin1 := hind.mono hU1
  have hne1 : ∃ w', (fun _ : World => True) w' := ⟨w1, trivial⟩
  refine st_keepT (fun _ => True) trivial ?_
  simp (disch := first | exact hne1 | assumption | omega) only [SX, add_mk, Nat.reduceAdd]
  refine h1.storeW hb3 hu hus (hfu.mono hUW.size) hwl ?_
  intro w2 h2 keep2
  have hin2 := keep2 _ _ _ _ _ rw_nosl hin1
  refine st_keepT (fun _ => True) trivial ?_
  have hd2 := h2.upd (Upd.drew w2 [])
  have hind2 := hin2.mono (Upd.drew w2 [])
  obtain ⟨vt2, vh2, vw2, hv2, s1, s2, ff2, hvt2, hUW2, hld2⟩ := hd2.tab
  obtain ⟨a2, c2, q2, hc2⟩ := rw_first hind2 h0
  injection q2 with q2; injection q2 with q2; subst q2
  obtain ⟨a3, c3, hv17, hc3⟩ := st_at hd2.nm hi
  have hne2 : ∃ w', (fun w' => Upd w2.drew w' []) w' := ⟨_, Upd.refl _ _⟩
  refine st_draw (fun w' => Upd w2.drew w' []) (Upd.refl _ _) ?_
  have k0 : ∀ w', Upd w2.drew w' [] → w'.cell? (a.add (0 * 4 + 0)) = some (.int .i64 r.txn) := fun w' h => by rw [← hr0]; exact (hc2 w' h).1
  have k2 : ∀ w', Upd w2.drew w' [] → w'.cell? (a.add (0 * 4 + 2)) = some (.int .i64 r.mode) := fun w' h => by rw [← hr0]; exact (hc2 w' h).2.1
  have k3 : ∀ w', Upd w2.drew w' [] → w'.cell? (a3.add i) = some (strV names[i]) := fun w' h => hc3 w' h
  rw [stepS_run hne2 fun w' hs => run_sLoad (hld2 w' hs), hv17]
  simp (disch := first | exact hne2 | assumption | omega) only [SX, SLX, add_add', Nat.mul_one]
  refine st_call (rGet_spec (vw := vw2) hvt2 ⟨vh2, hv2⟩ (by show D.has.length ≤ 1000000; omega) r.txn names[i] r.mode) ?_
  rintro u3 w3 ⟨⟨vh3, rfl, hf3⟩, hu3, hU3⟩
  have h3 := hd2.upd hU3
  have hin3 := hind2.mono hU3
  obtain ⟨hg1, hg2⟩ := getT_len (D := ⟨D.has, waitingD D r.txn⟩) (x := r.txn) (s := names[i]) (m := r.mode)
  have hg1 : (getT ⟨D.has, waitingD D r.txn⟩ r.txn names[i] r.mode).has.length ≤ D.has.length + 1 := hg1
  have hg3 : (getT ⟨D.has, waitingD D r.txn⟩ r.txn names[i] r.mode).waits.length = (waitingD D r.txn).length := by rw [hg2]
  refine st_keepT (fun _ => True) trivial ?_
  refine h3.storeT hb3 hu3 (fun uh uw he => ?_) ⟨by omega, by omega⟩ ?_
  · unfold rtV at he
    simp only [Value.agg.injEq, Array.mk.injEq, List.cons.injEq, and_true] at he
    obtain ⟨rfl, rfl⟩ := he
    exact ⟨hd2.sep hf3, by rw [hg2]; exact s2, .inr (hf3.mono hUW2.size), ff2⟩
  intro w4 h4 keep4
  have hin4 := keep4 _ _ _ _ _ rw_nosl hin3
  refine st_keepT (fun _ => True) trivial ?_
  obtain ⟨a5, c5, q5, hc5⟩ := rw_first hin4 h0
  injection q5 with q5; injection q5 with q5; subst q5
  rw [px_ix25 h0, step_run (run_sLoad (hc5 w4 (Upd.refl _ _)).2.2), hr0]
  obtain ⟨⟨vh, vw, m1, m2, m3, t1, t2, ff⟩, m4, t3, m5, m6⟩ := h4
  refine m1.pushX kind_rw (by omega) r ?_
  intro v' w5 hG5 keep5
  obtain ⟨q2, x2⟩ := keep5 _ rwV 4 _ _ (fun _ => rfl) (by decide) m2 t1
  obtain ⟨q3, x3⟩ := keep5 _ rwV 4 _ _ (fun _ => rfl) (by decide) m3 t2
  obtain ⟨q4, x4⟩ := keep5 _ stV 1 _ _ (fun _ => rfl) (by decide) m4 t3
  exact hK v' w5 ⟨⟨vh, vw, hG5, q2, q3, x2, x3, ff⟩, q4, x4, m5, by rw [List.length_append, List.length_singleton]; omega⟩
end
end Go.Proofs.YtakifgecgmdjcaaGreat

/- The document's locks: Gone. -/
namespace Go.Proofs.YtakifgecgmdjcaaGreat
open Go Xf Go.RowKit
set_option linter.unusedVariables false
set_option linter.unusedSimpArgs false
set_option maxRecDepth 100000

section
variable {W w w' : World} {vh0 vw0 : Value} {b3 b6 : Nat} {v17 : Value} {names : List (List UInt8)} {D D0 : Rt} {out : List Rw} {K : Value → World → Prop} {v : Value}
theorem rGone_k2 (h : GoneS W vh0 vw0 b3 b6 v17 names D out v w) (hb6 : W.heap.size ≤ b6) (hG : GoneT names D0 out D) {Q : Value → World → Prop} (hQ : ∀ u w', GoneQ W vh0 vw0 names D0 u w' → Q u w') : flotillaref13_Gone_k2 (std Tryz.prog) (.pointer (some ⟨b3, 0, none⟩)) (.pointer (some ⟨b6, 0, none⟩)) v w Q := by
  unfold flotillaref13_Gone_k2
  obtain ⟨vt, -, -, -, -, -, -, -, -, hld⟩ := h.tab
  obtain ⟨⟨vh, vw, h1, h2, h3, s1, s2, ff1, ff2⟩, h4, s3, h5, h6⟩ := h
  have hb := h1.owns.at_ 1 rfl
  rw [step_run (run_sLoad (tab_cells (h1.owns.at_ 0 rfl)).2.2)]
  refine h1.putN (vs := [vh, vw]) (by rw [sz27]; rfl) 1 rfl (by show 0 + 2 ≤ 2; decide) (fun y hy => by simp only [List.mem_cons, List.not_mem_nil, or_false] at hy; rcases hy with rfl | rfl; exact rdS_one h2; exact rdS_one h3) hb6 ?_
  intro w' hG' hU
  refine st_loadR (tab_cells (hG'.owns.at_ 1 rfl)).2.2 ?_
  exact hQ _ _ ⟨out, D, _, _, v, rfl, ff1, ff2, ⟨vh, vw, rfl, RdS.keep rw_nosl h2 hb hU, RdS.keep rw_nosl h3 hb hU⟩, hG'.rd (by omega), hG, hG'.U, by omega, hG'.fresh⟩
theorem rGone_k1 (h0 : GoneS W vh0 vw0 b3 b6 v17 names D0 [] (.slice none 0 0) w) (hb3 : W.heap.size ≤ b3) (hb6 : W.heap.size ≤ b6) {Q : Value → World → Prop} (hQ : ∀ u w', GoneQ W vh0 vw0 names D0 u w' → Q u w') : flotillaref13_Gone_k1 (std Tryz.prog) (.pointer (some ⟨b3, 0, none⟩)) (.pointer (some ⟨b6, 0, none⟩)) v17 w Q := by
  unfold flotillaref13_Gone_k1
  obtain ⟨A, c, hv17, hnl⟩ := rdS_len h0.nm
  refine st_loop (fun vs w' => ∃ (i : Nat) (D1 : Rt) (out1 : List Rw), i ≤ names.length ∧ vs.getD 1 undef = .int .i64 i ∧ GoneS W vh0 vw0 b3 b6 v17 names D1 out1 (vs.getD 0 undef) w' ∧ ∀ o2 D2, GoneT (names.drop i) D1 o2 D2 → GoneT names D0 (out1 ++ o2) D2) (fun vs _ => names.length - (intOf (vs.getD 1 undef)).toNat) ⟨0, D0, [], Nat.zero_le _, rfl, h0, fun o2 D2 h => h⟩ ?_
  rintro dv vs w1 - ⟨i, D1, out1, hi, e1, hS, hcomp⟩
  rw [hv17]
  simp (disch := first | assumption | omega) only [e1, PX, BX]
  rw [← hv17]
  refine ⟨fun hlt => ?_, fun hge => ?_⟩
  rotate_left
  · obtain rfl : i = names.length := by omega
    refine rGone_k2 hS hb6 ?_ hQ
    have := hcomp [] D1 (by rw [List.drop_of_length_le (Nat.le_refl _)]; exact .nil)
    rwa [List.append_nil] at this
  have hi' : i < names.length := by omega
  have hdrop : names.drop i = names[i] :: names.drop (i + 1) := List.drop_eq_getElem_cons hi'
  let I : Nat → List Value → World → Prop := fun k vs2 w' => ∃ D2 o, k = D2.waits.length ∧ GoneS W vh0 vw0 b3 b6 v17 names D2 (out1 ++ o) (vs2.getD 0 undef) w' ∧ ∀ o' D3, PassT names[i] D2 o' D3 → PassT names[i] D1 (o ++ o') D3
  refine st_loop (fun vs w' => ∃ k, I k vs w') (minK I) ⟨_, D1, [], rfl, by rw [List.append_nil]; exact hS, fun o' D3 h => h⟩ ?_
  rintro dv2 vs2 w2 - hex
  obtain ⟨⟨D2, o, hk, hS2, hpc⟩, -⟩ := minK_spec hex
  generalize minK I vs2 w2 = k at hk
  clear hex
  -- what is left where nobody goes in
  have stop : ∀ w', Upd w2 w' [] → (∀ r l, inD D2 names[i] = r :: l → goesD D2 r.txn names[i] r.mode = false) → flotillaref13_Gone_k3 (std Tryz.prog) vs (fun vs' w' => (∃ (i : Nat) (D1 : Rt) (out1 : List Rw), i ≤ names.length ∧ vs'.getD 1 undef = .int .i64 i ∧ GoneS W vh0 vw0 b3 b6 v17 names D1 out1 (vs'.getD 0 undef) w' ∧ ∀ o2 D2, GoneT (names.drop i) D1 o2 D2 → GoneT names D0 (out1 ++ o2) D2) ∧ names.length - (intOf (vs'.getD 1 undef)).toNat < names.length - (intOf (Value.int .i64 i)).toNat) (vs2.getD 0 undef) w' Q := fun w' hU hst => by
    unfold flotillaref13_Gone_k3
    simp (disch := first | assumption | omega) only [e1, PX, w64]
    refine ⟨⟨i + 1, D2, out1 ++ o, by omega, rfl, hS2.upd hU, fun o2 D3 h => ?_⟩, ?_⟩
    · have hp := hpc [] D2 (.stop hst)
      rw [List.append_nil] at hp
      rw [List.append_assoc]
      exact hcomp _ _ (by rw [hdrop]; exact .cons hp h)
    · simp only [List.getD_cons_succ, List.getD_cons_zero, intOf]; omega
  obtain ⟨hl1, hl2⟩ := hS2.len
  have hd := hS2.upd (Upd.drew w2 [])
  obtain ⟨vt, vh, vw, hvt, -, -, -, hT, -, hld⟩ := hd.tab
  obtain ⟨a3, c3, hq, hc3⟩ := st_at hd.nm hi'
  have hne : ∃ w', (fun w' => Upd w2.drew w' []) w' := ⟨_, Upd.refl _ _⟩
  refine st_draw (fun w' => Upd w2.drew w' []) (Upd.refl _ _) ?_
  have g3 : ∀ w', Upd w2.drew w' [] → w'.cell? (a3.add i) = some (strV names[i]) := fun w' h => hc3 w' h
  have hidx : ∀ {S : World → Prop} {k : Value → Prop}, (∃ w, S w) → (std Tryz.prog).stepS S (sIndexAddr 109 v17 (.int .i64 (i : Nat))) k = k (.pointer (some (a3.add i))) := fun hne => by rw [hq]; exact sx_ix109 hi' hne
  rw [stepS_run hne fun w' hs => run_sLoad (hld w' hs), hidx hne]
  simp (disch := first | exact hne | assumption | omega) only [SLX]
  refine st_call (rIn_spec hT (by omega) names[i]) ?_
  rintro v59 w3 ⟨hin, hU3⟩
  have hU3' : Upd w2 w3 [] := (Upd.drew w2 []).trans hU3
  refine st_keepT (fun _ => True) trivial ?_
  have hd3 := (hd.upd hU3).upd (Upd.drew w3 [])
  have hind := hin.mono (Upd.drew w3 [])
  obtain ⟨A5, c5, hv59, -⟩ := rdS_len hind
  have hne3 : ∃ w', (fun w' => Upd w3.drew w' []) w' := ⟨_, Upd.refl _ _⟩
  refine st_draw (fun w' => Upd w3.drew w' []) (Upd.refl _ _) ?_
  obtain ⟨vt3, _, _, -, -, -, -, hT3, -, hld3⟩ := hd3.tab
  have z0 : (Value.int .i64 0) = .int .i64 ((0 : Nat) : Int) := rfl
  have hlen : ∀ {S : World → Prop} {k : Value → Prop}, (∃ w, S w) → (std Tryz.prog).stepS S (sBuiltin .len #[25] 3 [false] [v59]) k = k (.int .i64 ((inD D2 names[i]).length : Nat)) := fun hne => by
    rw [hv59]
    simp (disch := first | exact hne | assumption | omega) only [SX]
  rw [hlen hne3]
  simp (disch := first | exact hne3 | assumption | omega) only [SX]
  rw [bool_dec]
  refine ⟨fun hz => ?_, fun hz => ?_⟩
  · refine stop _ (hU3'.trans (Upd.drew w3 [])) fun r l hrl => ?_
    rw [hrl, List.length_cons] at hz
    exact absurd hz (by omega)
  obtain ⟨r, l, hrl⟩ : ∃ r l, inD D2 names[i] = r :: l := List.exists_cons_of_ne_nil fun (h : inD D2 names[i] = []) => hz (by rw [h]; rfl)
  have h0' : 0 < (inD D2 names[i]).length := by rw [hrl]; simp
  have hr0 : (inD D2 names[i])[0] = r := by simp only [hrl, List.getElem_cons_zero]
  obtain ⟨a, ca, hqa, hca⟩ := rw_first hind h0'
  obtain ⟨a4, c4, hq4, hc4⟩ := st_at hd3.nm hi'
  have ha43 : a4 = a3 := by rw [hq] at hq4; injection hq4 with hq4; injection hq4 with hq4; exact hq4.symm
  subst ha43
  have k0 : ∀ w', Upd w3.drew w' [] → w'.cell? (a.add (0 * 4 + 0)) = some (.int .i64 r.txn) := fun w' h => by rw [← hr0]; exact (hca w' h).1
  have k2 : ∀ w', Upd w3.drew w' [] → w'.cell? (a.add (0 * 4 + 2)) = some (.int .i64 r.mode) := fun w' h => by rw [← hr0]; exact (hca w' h).2.1
  have k3 : ∀ w', Upd w3.drew w' [] → w'.cell? (a4.add i) = some (strV names[i]) := fun w' h => hc4 w' h
  have hidx0 : ∀ {S : World → Prop} {k : Value → Prop}, (∃ w, S w) → (std Tryz.prog).stepS S (sIndexAddr 25 v59 (.int .i64 0)) k = k (.pointer (some (a.add (0 * 4)))) := fun hne => by rw [hqa, z0]; exact sx_ix25 h0' hne
  rw [stepS_run hne3 fun w' hs => run_sLoad (hld3 w' hs)]
  simp (disch := first | exact hne3 | assumption | omega) only [hidx, hidx0, SX, SLX, add_add']
  refine st_call (rGoes_spec hT3 r.txn names[i] r.mode) ?_
  rintro _ w4 ⟨rfl, hU4⟩
  refine st_keepT (fun _ => True) trivial ?_
  have hne4 : ∃ w', (fun _ : World => True) w' := ⟨w4, trivial⟩
  simp (disch := first | exact hne4 | assumption | omega) only [SX]
  rw [bool_var]
  refine ⟨fun hng => ?_, fun hgo => ?_⟩
  · refine stop _ ((hU3'.trans (Upd.drew w3 [])).trans hU4) fun r' l' hrl' => ?_
    rw [hrl] at hrl'
    injection hrl' with h1 h2
    subst h1
    simpa using hng
  have hgo : goesD D2 r.txn names[i] r.mode = true := by simpa using hgo
  refine rGone_go (hd3.upd hU4) hb3 hi' (hind.mono hU4) hrl fun v' w5 h5 => ?_
  have hwl := waiting_lt (inD_mem (D := D2) (s := names[i]) (r := r) (by rw [hrl]; exact List.mem_cons_self ..)).1
  have hgw : (getT ⟨D2.has, waitingD D2 r.txn⟩ r.txn names[i] r.mode).waits.length = (waitingD D2 r.txn).length := rfl
  refine minK_go (I := I) (k' := (getT ⟨D2.has, waitingD D2 r.txn⟩ r.txn names[i] r.mode).waits.length) ⟨_, o ++ [r], rfl, by rw [← List.append_assoc]; exact h5, fun o' D3 hp => ?_⟩ (by omega)
  rw [List.append_assoc]
  exact hpc _ _ (.go hrl hgo hp)
/-- what is left of the rows where all goes -/
theorem rGone_spec {vh vw : Value} {D : Rt} (h : RdT w (rtV vh vw) D) (hl : D.has.length + D.waits.length ≤ 50000) (x : Int) (all : Bool) : CallsR Tryz.prog 27 #[rtV vh vw, .int .i64 x, .bool all] w fun u w' => ∃ names, NamesIn x (srcD D all) names ∧ GoneQ w vh vw names (startD D x all) u w' := by
  apply flotillaref13_Gone_sound
  unfold flotillaref13_Gone_x
  have hT := h
  obtain ⟨vh', vw', he, hh, hw⟩ := h
  unfold rtV at he
  simp only [Value.agg.injEq, Array.mk.injEq, List.cons.injEq, and_true] at he
  obtain ⟨rfl, rfl⟩ := he
  obtain ⟨A, c, rfl, hlh⟩ := rdS_len hh
  obtain ⟨Aw, cw, rfl, hlw⟩ := rdS_len hw
  refine st_box (Upd.refl w []) (Owns.nil w) ?_
  intro b3 w1 hU1 hO1 hb3
  refine st_alloc ze_tab hU1 hO1 ?_
  intro b6 w1 hU1 hO1 hb6
  have hO1 : Owns w1 [tabBx b3 (.slice A D.has.length c) (.slice Aw D.waits.length cw), tabBx b6 (.slice none 0 0) (.slice none 0 0)] := hO1.perm (List.Perm.swap ..)
  rw [step_run (run_sLoad (tab_cells (hO1.at_ 0 rfl)).2.2)]
  refine st_call (rNames_spec (hT.mono hU1) (by omega) x all) ?_
  rintro v17 w2 ⟨names, hnm, hU2, hN⟩
  have hO2 := hO1.ext hU2
  have hU2 := hU1.trans hU2
  rw [step_run (run_sLoad (tab_cells (hO2.at_ 0 rfl)).2.2)]
  refine st_call (rWaiting_spec (hT.mono hU2) (by omega) x) ?_
  rintro u w3 ⟨hu, hU3, hfu⟩
  have hfu := hfu.mono hU2.size
  have hO3 := hO2.ext hU3
  have hnm3 := hnm.mono hU3
  have hU3 := hU2.trans hU3
  have hwlen : (waitingD D x).length ≤ D.waits.length := List.length_filter_le ..
  have hhlen : (D.has.filter fun r => decide (r.txn ≠ x)).length ≤ D.has.length := List.length_filter_le ..
  simp (disch := first | assumption | omega) only [PX, add_mk, Nat.reduceAdd]
  obtain ⟨Au, cu, hAu, -⟩ := rdS_len hu
  subst hAu
  refine (OutG.nil_ (t := 85) (k := 4) (f := rwV) hU3 hO3).put1 sz25 rfl 0 rfl (by show 1 < 2; decide) hb3 ?_
  intro w4 hG4 hU34
  have hb := hO3.at_ 0 rfl
  have hh4 : RdS w4 rwV 4 (.slice A D.has.length c) D.has := RdS.keep rw_nosl (hh.mono hU3) hb hU34
  have hu4 := RdS.keep rw_nosl hu hb hU34
  have hnm4 := RdS.keep st_nosl hnm3 hb hU34
  have hG4 : OutG 85 4 rwV w [tabBx b3 (.slice A D.has.length c) (.slice Au (waitingD D x).length cu), tabBx b6 (.slice none 0 0) (.slice none 0 0)] [] (.slice none 0 0) w4 := hG4
  rw [bool_var]
  refine ⟨fun ha => ?_, fun ha => ?_⟩
  rotate_left
  · have hsd : startD D x all = ⟨D.has, waitingD D x⟩ := by unfold startD; rw [ha]; rfl
    rw [hsd]
    exact rGone_k1 (W := w) (D0 := ⟨D.has, waitingD D x⟩) ⟨⟨_, _, hG4, hh4, hu4, Sep.nil_, Sep.nil_, .inl rfl, .inr hfu⟩, hnm4, Sep.nil_, by show D.has.length + (waitingD D x).length ≤ 100000; omega, by show 0 + (waitingD D x).length ≤ 100000; omega⟩ hb3 hb6 fun u w' h => ⟨names, hN, h⟩
  have hsd : startD D x all = ⟨D.has.filter (fun r => decide (r.txn ≠ x)), waitingD D x⟩ := by unfold startD; rw [ha]; rfl
  rw [hsd]
  refine st_loop (fun vs w' => ∃ i : Nat, i ≤ D.has.length ∧ vs.getD 1 undef = .int .i64 i ∧ OutG 85 4 rwV w4 [tabBx b3 (.slice A D.has.length c) (.slice Au (waitingD D x).length cu), tabBx b6 (.slice none 0 0) (.slice none 0 0)] ((D.has.take i).filter fun r => decide (r.txn ≠ x)) (vs.getD 0 undef) w') (fun vs _ => D.has.length - (intOf (vs.getD 1 undef)).toNat) ⟨0, Nat.zero_le _, rfl, by rw [List.take_zero]; exact OutG.nil_ (Upd.refl w4 []) hG4.owns⟩ ?_
  rintro dv vs w5 - ⟨i, hi, e1, hG⟩
  have hU5 := hG.U
  obtain ⟨c0, -, -⟩ := tab_cells (hG.owns.at_ 0 rfl)
  have hfl := filt_le (fun r : Rw => decide (r.txn ≠ x)) D.has i
  simp (disch := first | assumption | omega) only [e1, PX, BX, LX, add_mk, Nat.reduceAdd]
  refine ⟨fun hlt => ?_, fun hge => ?_⟩
  rotate_left
  · obtain rfl : i = D.has.length := by omega
    rw [List.take_length] at hG hfl
    unfold flotillaref13_Gone_k4
    simp (disch := first | assumption | omega) only [PX, add_mk, Nat.reduceAdd]
    obtain ⟨Af, cf, hAf⟩ := hG.len
    have hrd := hG.rd (by omega)
    have hff := hG.fresh.mono hG4.U.size
    rw [hAf] at hG hrd hff ⊢
    have hb5 := hG.owns.at_ 0 rfl
    have hu5 := hu4.mono hU5
    have hnm5 := hnm4.mono hU5
    -- the table's rows, written anew
    refine st_storeB sz25 rfl (Upd.refl w5 [b3]) hG.owns 0 rfl (by show 0 < 2; decide) (.inr (Nat.zero_le _)) (.inl (List.mem_singleton.2 rfl)) ?_
    intro w6 hU6 hO6
    have hO6 : Owns w6 [tabBx b3 (.slice Af _ cf) (.slice Au (waitingD D x).length cu), tabBx b6 (.slice none 0 0) (.slice none 0 0)] := hO6
    have hUW : Upd w w6 [] := (hG4.U.trans hU5).then_ hU6 fun y hy => by rw [List.mem_singleton] at hy; subst hy; exact .inr hb3
    exact rGone_k1 (W := w) (D0 := ⟨D.has.filter (fun r => decide (r.txn ≠ x)), waitingD D x⟩) ⟨⟨_, _, OutG.nil_ hUW hO6, RdS.keep rw_nosl hrd hb5 hU6, RdS.keep rw_nosl hu5 hb5 hU6, Sep.nil_, Sep.nil_, .inr hff, .inr hfu⟩, RdS.keep st_nosl hnm5 hb5 hU6, Sep.nil_, by show (D.has.filter fun r => decide (r.txn ≠ x)).length + (waitingD D x).length ≤ 100000; omega, by show 0 + (waitingD D x).length ≤ 100000; omega⟩ hb3 hb6 fun u w' h => ⟨names, hN, h⟩
  have hi' : i < D.has.length := by omega
  obtain ⟨a, c', q1, hc⟩ := rw_at hh4 hi'
  injection q1 with q1; subst q1
  obtain ⟨k0, -, -, -, kl⟩ := hc w5 hU5
  have htk := filter_take (fun r : Rw => decide (r.txn ≠ x)) hi'
  simp (disch := first | assumption | omega) only [PX, BX, LX, add_mk, add_add', Nat.reduceAdd]
  unfold flotillaref13_Gone_k5
  refine ⟨fun hx => ?_, fun hx => ?_⟩
  · rw [step_run (run_sLoad kl)]
    refine hG.push kind_rw (by omega) _ ?_
    intro v' w6 hG6
    simp (disch := omega) only [e1, PX, w64]
    refine ⟨⟨i + 1, by omega, rfl, ?_⟩, ?_⟩
    · rw [htk, if_pos (decide_eq_true hx)]; exact hG6
    · simp only [List.getD_cons_succ, List.getD_cons_zero, intOf]; omega
  · simp (disch := omega) only [e1, PX, w64]
    refine ⟨⟨i + 1, by omega, rfl, ?_⟩, ?_⟩
    · rw [htk, if_neg (by simpa using hx), List.append_nil]; exact hG
    · simp only [List.getD_cons_succ, List.getD_cons_zero, intOf]; omega
end
end Go.Proofs.YtakifgecgmdjcaaGreat

/- The document's edges: one put in its place. -/
namespace Go.Proofs.YtakifgecgmdjcaaGreat
open Go Xf Go.RowKit
set_option linter.unusedVariables false
set_option linter.unusedSimpArgs false
set_option maxRecDepth 100000

section
variable {W w w' : World} {l : List Ed} {e : Ed} {v : Value}
theorem ed_at2 {v : Value} {l : List Ed} {i : Nat} (hr : RdS W edV 2 v l) (hi : i < l.length) : ∃ a c, v = .slice (some a) l.length c ∧ ∀ w', Upd W w' [] → w'.cell? (a.add (i * 2 + 0)) = some (.int .i64 l[i].1) ∧ w'.cell? (a.add (i * 2 + 1)) = some (.int .i64 l[i].2) ∧ (loadVar 78 (a.add (i * 2))).run Tryz.prog w' = .ok (.agg (edV l[i]).toArray) w' := by
  obtain ⟨A, c, rfl, hm, hrd⟩ := hr
  obtain ⟨a, rfl, hx⟩ := Rd.row (f := edV) (k := 2) (fun _ => rfl) (by omega) hrd hi
  have e : ((i : Nat) : Int).toNat = i := by omega
  rw [e] at hx
  exact ⟨a, c, rfl, fun w' hU => ⟨hx w' hU 0 _ rfl, hx w' hU 1 _ rfl, run_loadVarN (cs := edV l[i]) ag78 (by rw [sz78]; rfl) fun j v hj => by rw [add_add']; exact hx w' hU j v hj⟩⟩
def edBx (b : Nat) (e : Ed) : Nat × Obj := (b, .cells (edV e).toArray 78 (0, 0))
theorem edB_cells {b : Nat} (h : w.heap[b]? = some (edBx b e).2) : w.cell? ⟨b, 0, none⟩ = some (.int .i64 e.1) ∧ w.cell? ⟨b, 1, none⟩ = some (.int .i64 e.2) ∧ (loadVar 78 ⟨b, 0, none⟩).run Tryz.prog w = .ok (.agg (edV e).toArray) w :=
  ⟨(cell_at h).trans rfl, (cell_at h).trans rfl, run_loadVarN (cs := edV e) ag78 (by rw [sz78]; rfl) (cells_read (cs := (edV e).toArray) h)⟩
def PutQ (W : World) (l : List Ed) (e : Ed) (u : Value) (w' : World) : Prop := ∃ l', RdS w' edV 2 u l' ∧ Upd W w' [] ∧ l'.Pairwise edLt ∧ (∀ x, x ∈ l' ↔ x = e ∨ x ∈ l) ∧ l'.length ≤ l.length + 1
theorem rPut_k2 {b k : Nat} (hr : RdS W edV 2 v l) (hl : l.length ≤ 1000000) (hU : Upd W w []) (hO : Owns w [edBx b e]) (hk : k ≤ l.length) (hp : l.Pairwise edLt) (h1 : ∀ y ∈ l.take k, edLt y e) (h2 : ∀ (hk : k < l.length), edLt e l[k]) :
    flotillaref13_put_k2 (std Tryz.prog) v (.pointer (some ⟨b, 0, none⟩)) (.int .i64 (k : Nat)) w (PutQ W l e) := by
  unfold flotillaref13_put_k2
  refine OutG.take kind_ed sz78 (hr.mono hU) hU hO hk hl ?_
  intro v1 w1 hG1
  rw [step_run (run_sLoad (edB_cells (hG1.owns.at_ 0 rfl)).2.2)]
  refine hG1.push kind_ed (by simp; omega) e ?_
  intro v2 w2 hG2
  refine hG2.drop kind_ed sz78 (hr.mono hG2.U) hk hl (by simp; omega) ?_
  intro v3 w3 hG3
  refine ⟨insAt l k e, hG3.rd (by simp; omega), hG3.U, insAt_pw (R := edLt) (fun a b c h1 h2 => edLt_trans h1 h2) hp h1 h2, fun x => mem_insAt, by rw [insAt_len]; omega⟩
theorem rPut_k1 {b k : Nat} (hr : RdS W edV 2 v l) (hl : l.length ≤ 1000000) (hU : Upd W w []) (hO : Owns w [edBx b e]) (hk : k ≤ l.length) (hp : l.Pairwise edLt) (h1 : ∀ y ∈ l.take k, edLt y e) (h2 : ∀ (hk : k < l.length), ¬ edLt l[k] e) :
    flotillaref13_put_k1 (std Tryz.prog) v (.pointer (some ⟨b, 0, none⟩)) (.int .i64 (k : Nat)) w (PutQ W l e) := by
  unfold flotillaref13_put_k1
  obtain ⟨A, c, rfl, hll⟩ := rdS_len hr
  have hUd := hU.trans (Upd.drew w [])
  have hOd := hO.ext (Upd.drew w [])
  let S : World → Prop := fun w' => Upd W w' [] ∧ Owns w' [edBx b e]
  have hne : ∃ w', S w' := ⟨_, hUd, hOd⟩
  refine st_draw S ⟨hUd, hOd⟩ ?_
  simp (disch := first | exact hne | assumption | omega) only [SX]
  rw [bool_dec]
  refine ⟨fun hlt => ?_, fun hge => rPut_k2 hr hl hUd hOd hk hp h1 fun hk => absurd (by omega : ((k : Nat) : Int) < (l.length : Nat)) hge⟩
  have hk' : k < l.length := by omega
  obtain ⟨a, c', q1, hc⟩ := ed_at2 hr hk'
  injection q1 with q1; subst q1
  simp (disch := first | exact hne | assumption | omega) only [SX]
  rw [stepS_run hne fun w' hs => run_sLoad (hc w' hs.1).2.2, stepS_run hne fun w' hs => run_sLoad (edB_cells (hs.2.at_ 0 rfl)).2.2, stepS_run hne fun w' hs => eq_ed _ _ _ _ _, bool_dec]
  refine ⟨fun heq => ?_, fun hneq => rPut_k2 hr hl hUd hOd hk hp h1 fun hk => edLt_or (h2 hk) (Ne.symm hneq)⟩
  refine ⟨l, hr.mono hUd, hUd, hp, fun x => ⟨.inr, fun h => h.elim (fun h => by rw [h, ← heq]; exact List.getElem_mem hk') id⟩, by omega⟩
theorem rPut_spec (hr : RdS w edV 2 v l) (hl : l.length ≤ 1000000) (hp : l.Pairwise edLt) (e : Ed) : CallsR Tryz.prog 41 #[v, .agg (edV e).toArray] w (PutQ w l e) := by
  apply flotillaref13_put_sound
  unfold flotillaref13_put_x
  obtain ⟨A, c, rfl, hll⟩ := rdS_len hr
  refine st_box (Upd.refl w []) (Owns.nil w) ?_
  intro b w1 hU1 hO1 hb
  have hO1 : Owns w1 [edBx b e] := hO1
  refine st_loop (fun vs w' => ∃ k : Nat, k ≤ l.length ∧ vs.getD 0 undef = .int .i64 k ∧ SU w [edBx b e] w' ∧ ∀ y ∈ l.take k, edLt y e) (fun vs _ => l.length - (intOf (vs.getD 0 undef)).toNat) ⟨0, Nat.zero_le _, rfl, ⟨hU1, hO1⟩, by simp⟩ ?_
  rintro dv vs w2 - ⟨k, hk, e0, ⟨hU2, hO2⟩, hsm⟩
  have hUd := hU2.trans (Upd.drew w2 [])
  have hOd := hO2.ext (Upd.drew w2 [])
  have hne : ∃ w', SU w [edBx b e] w' := ⟨_, hUd, hOd⟩
  refine st_draw (SU w [edBx b e]) ⟨hUd, hOd⟩ ?_
  unfold flotillaref13_put_k4 flotillaref13_put_k3
  rw [e0]
  simp (disch := first | exact hne | assumption | omega) only [SX]
  rw [bool_dec]
  refine ⟨fun hlt => ?_, fun hge => rPut_k1 hr hl hUd hOd hk hp hsm fun hk => absurd (by omega : ((k : Nat) : Int) < (l.length : Nat)) hge⟩
  have hk' : k < l.length := by omega
  obtain ⟨a, c', q1, hc⟩ := ed_at2 hr hk'
  injection q1 with q1; subst q1
  have g0 : ∀ w', SU w [edBx b e] w' → w'.cell? (a.add (k * 2 + 0)) = some (.int .i64 l[k].1) := fun w' h => (hc w' h.1).1
  have g1 : ∀ w', SU w [edBx b e] w' → w'.cell? (a.add (k * 2 + 1)) = some (.int .i64 l[k].2) := fun w' h => (hc w' h.1).2.1
  have d0 : ∀ w', SU w [edBx b e] w' → w'.cell? ⟨b, 0, none⟩ = some (.int .i64 e.1) := fun w' h => (edB_cells (h.2.at_ 0 rfl)).1
  have d1 : ∀ w', SU w [edBx b e] w' → w'.cell? ⟨b, 1, none⟩ = some (.int .i64 e.2) := fun w' h => (edB_cells (h.2.at_ 0 rfl)).2.1
  clear hc
  simp (disch := first | exact hne | assumption | omega) only [SX, SLX, add_add', add_mk, Nat.reduceAdd]
  have goOn : edLt l[k] e → (fun vs' w' => (∃ k : Nat, k ≤ l.length ∧ vs'.getD 0 undef = .int .i64 k ∧ SU w [edBx b e] w' ∧ ∀ y ∈ l.take k, edLt y e) ∧ l.length - (intOf (vs'.getD 0 undef)).toNat < l.length - (intOf (Value.int .i64 k)).toNat) [Value.int .i64 ((k + 1 : Nat) : Int)] w2.drew := fun hlt => by
    refine ⟨⟨k + 1, by omega, rfl, ⟨hUd, hOd⟩, fun y hy => ?_⟩, ?_⟩
    · rw [List.take_succ_eq_append_getElem hk'] at hy
      rcases List.mem_append.1 hy with hy | hy
      · exact hsm y hy
      · rw [List.mem_singleton] at hy; subst hy; exact hlt
    · simp only [List.getD_cons_zero, intOf]; omega
  rw [bool_dec]
  refine ⟨fun h1 => ?_, fun h1 => ?_⟩
  · simp (disch := first | assumption | omega) only [PX, w64]
    exact goOn (.inl h1)
  rw [bool_dec]
  refine ⟨fun h2 => ?_, fun h2 => ?_⟩
  · rw [bool_dec]
    refine ⟨fun h3 => ?_, fun h3 => ?_⟩
    · simp (disch := first | assumption | omega) only [PX, w64]
      exact goOn (.inr ⟨h2, h3⟩)
    · exact rPut_k1 hr hl hUd hOd hk hp hsm fun _ h => h.elim h1 fun h => h3 h.2
  · exact rPut_k1 hr hl hUd hOd hk hp hsm fun _ h => h.elim h1 fun h => h2 h.1
end
end Go.Proofs.YtakifgecgmdjcaaGreat

/- The document's edges. -/
namespace Go.Proofs.YtakifgecgmdjcaaGreat
open Go Xf Go.RowKit
set_option linter.unusedVariables false
set_option linter.unusedSimpArgs false
set_option maxRecDepth 100000

def rowBx (b : Nat) (r : Rw) : Nat × Obj := (b, .cells (rwV r).toArray 85 (0, 0))
theorem rowB_cells {w : World} {b : Nat} {r : Rw} (h : w.heap[b]? = some (rowBx b r).2) : w.cell? ⟨b, 0, none⟩ = some (.int .i64 r.txn) ∧ w.cell? ⟨b, 1, none⟩ = some (strV r.name) ∧ w.cell? ⟨b, 2, none⟩ = some (.int .i64 r.mode) :=
  ⟨(cell_at h).trans rfl, (cell_at h).trans rfl, (cell_at h).trans rfl⟩
def aheadD (D : Rt) (r : Rw) : List Rw := (inD D r.name).takeWhile fun q => decide (q.txn ≠ r.txn)
def edgeHas (D : Rt) (r : Rw) (l : List Rw) (e : Ed) : Prop := e.1 = r.txn ∧ ∃ h ∈ l, offB D r.txn r.name r.mode h = true ∧ h.txn = e.2
def edgeRow (D : Rt) (r : Rw) (e : Ed) : Prop := edgeHas D r D.has e ∨ (e.1 = r.txn ∧ ∃ q ∈ aheadD D r, q.txn = e.2)
def edgeD (D : Rt) (e : Ed) : Prop := ∃ r ∈ D.waits, edgeRow D r e
theorem takeWhile_take {α : Type} (p : α → Bool) : ∀ {l : List α} {k : Nat}, (∀ q ∈ l.take k, p q = true) → (∀ (hk : k < l.length), p l[k] = false) → l.takeWhile p = l.take k
  | [], k, _, _ => by simp
  | a :: l, 0, _, h2 => by
    have := h2 (by simp)
    simp only [List.getElem_cons_zero] at this
    rw [List.take_zero, List.takeWhile_cons_of_neg (by rw [this]; exact Bool.false_ne_true)]
  | a :: l, k + 1, h1, h2 => by
    rw [List.take_succ_cons] at h1 ⊢
    rw [List.takeWhile_cons_of_pos (h1 a (List.mem_cons_self ..))]
    congr 1
    exact takeWhile_take p (fun q hq => h1 q (List.mem_cons_of_mem _ hq)) fun hk => by
      have := h2 (by simpa using hk)
      simpa using this
/-- a list of edges that is read, in order -/
structure EdL (w : World) (P : Ed → Prop) (n : Nat) (u : Value) (L : List Ed) : Prop where
  rd : RdS w edV 2 u L
  pw : L.Pairwise edLt
  mem : ∀ e, e ∈ L ↔ P e
  len : L.length ≤ n
section
variable {W w w' : World} {D : Rt} {r : Rw} {v : Value}
theorem EdL.upd {P : Ed → Prop} {n : Nat} {u : Value} {L : List Ed} (h : EdL w P n u L) (hU : Upd w w' []) : EdL w' P n u L := ⟨h.rd.mono hU, h.pw, h.mem, h.len⟩
theorem st_put {P P' : Ed → Prop} {n : Nat} {u : Value} {L : List Ed} {K : Value → World → Prop} (h : EdL w P n u L) (hn : n ≤ 1000000) (e : Ed) (hP : ∀ x, P' x ↔ x = e ∨ P x)
    (hK : ∀ u' w' L', EdL w' P' (n + 1) u' L' → Upd w w' [] → K u' w') : (std Tryz.prog).calls 41 #[u, .agg (edV e).toArray] w K := by
  have hl := h.len
  refine st_call (rPut_spec h.rd (by omega) h.pw e) ?_
  rintro u' w' ⟨L', h1, h2, h3, h4, h5⟩
  exact hK u' w' L' ⟨h1, h3, fun x => by rw [h4, hP, h.mem], by omega⟩ h2
theorem rEdges_k3 {b1 b5 n : Nat} {vh vw u3 : Value} {L : List Ed} {P : Ed → Prop} {vs : List Value} {again : List Value → World → Prop} {Q : Value → World → Prop} {i : Nat} (hh : RdS W rwV 4 vh D.has) (hw : RdS W rwV 4 vw D.waits) (hlw : D.waits.length ≤ 500) (hU : Upd W w []) (hO : Owns w [rowBx b5 r, tabBx b1 vh vw]) (hL : EdL w P n u3 L) (hn : n ≤ 900000) (e1 : vs.getD 1 undef = .int .i64 (i : Nat)) (hi : i ≤ 500)
    (hK : ∀ u' w' L', EdL w' (fun e => P e ∨ (e.1 = r.txn ∧ ∃ q ∈ aheadD D r, q.txn = e.2)) (n + 500) u' L' → Upd W w' [] → Owns w' [rowBx b5 r, tabBx b1 vh vw] → again [u', .int .i64 ((i + 1 : Nat) : Int)] w') :
    flotillaref13_Edges_k3 (std Tryz.prog) (.pointer (some ⟨b1, 0, none⟩)) vs again (.pointer (some ⟨b5, 0, none⟩)) u3 w Q := by
  unfold flotillaref13_Edges_k3
  rw [step_run (run_sLoad (tab_cells (hO.at_ 1 rfl)).2.2)]
  obtain ⟨-, c1, -⟩ := rowB_cells (hO.at_ 0 rfl)
  simp (disch := first | assumption | omega) only [PX, LX, add_mk, Nat.reduceAdd]
  refine st_call (rIn_spec (D := D) ⟨vh, vw, rfl, hh.mono hU, hw.mono hU⟩ (by omega) r.name) ?_
  rintro v73 w1 ⟨hin, hU1⟩
  have hL1 := hL.upd hU1
  have hO1 := hO.ext hU1
  have hUW := hU.trans hU1
  have hil : (inD D r.name).length ≤ 500 := by
    have h1 : (inD D r.name).length ≤ D.waits.length := by
      unfold inD tuD roD
      rw [List.length_append]
      have : ∀ l : List Rw, (l.filter fun x => decide (x.name = r.name) && x.turn).length + (l.filter fun x => decide (x.name = r.name) && !x.turn).length ≤ l.length := fun l => by
        induction l with
        | nil => simp
        | cons y l ih =>
          by_cases hy : y.name = r.name <;> cases ht : y.turn <;> simp [List.filter_cons, hy, ht] <;> omega
      exact this D.waits
    omega
  obtain ⟨A, c, rfl, hll⟩ := rdS_len hin
  generalize hrow : inD D r.name = row at hin hil
  have hrow' : aheadD D r = row.takeWhile fun q => decide (q.txn ≠ r.txn) := by unfold aheadD; rw [hrow]
  refine st_loop (fun vs2 w' => ∃ (k : Nat) (L : List Ed), k ≤ row.length ∧ vs2.getD 1 undef = .int .i64 k ∧ EdL w' (fun e => P e ∨ (e.1 = r.txn ∧ ∃ q ∈ row.take k, q.txn = e.2)) (n + k) (vs2.getD 0 undef) L ∧ SU w1 [rowBx b5 r, tabBx b1 vh vw] w' ∧ ∀ q ∈ row.take k, decide (q.txn ≠ r.txn) = true) (fun vs2 _ => row.length - (intOf (vs2.getD 1 undef)).toNat) ⟨0, L, Nat.zero_le _, rfl, ⟨hL1.rd, hL1.pw, fun e => by rw [hL1.mem]; simp, hL1.len⟩, ⟨Upd.refl _ _, hO1⟩, by simp⟩ ?_
  rintro dv2 vs2 w2 - ⟨k, L2, hk, f1, hL2, ⟨hU2, hO2⟩, hah⟩
  have hd : SU w1 [rowBx b5 r, tabBx b1 vh vw] w2.drew := SU.drew hU2 hO2
  have hLd := hL2.upd (Upd.drew w2 [])
  have hne : ∃ w', SU w1 [rowBx b5 r, tabBx b1 vh vw] w' := ⟨_, hd⟩
  refine st_draw (SU w1 [rowBx b5 r, tabBx b1 vh vw]) hd ?_
  rw [f1]
  simp (disch := first | exact hne | assumption | omega) only [SX]
  unfold flotillaref13_Edges_k2
  have fin : (∀ (hk : k < row.length), decide (row[k].txn ≠ r.txn) = false) → again [vs2.getD 0 undef, .int .i64 ((i + 1 : Nat) : Int)] w2.drew := fun hst => by
    refine hK _ _ L2 ?_ (hUW.trans hd.1) hd.2
    rw [hrow', takeWhile_take _ hah hst]
    exact ⟨hLd.rd, hLd.pw, hLd.mem, Nat.le_trans hLd.len (by omega)⟩
  rw [bool_dec]
  refine ⟨fun hlt => ?_, fun hge => ?_⟩
  rotate_left
  · simp (disch := first | assumption | omega) only [e1, PX, w64]
    exact fin fun hk => absurd (by omega : ((k : Nat) : Int) < (row.length : Nat)) hge
  have hk' : k < row.length := by omega
  obtain ⟨a, c', q1, hc⟩ := rw_at hin hk'
  injection q1 with q1; subst q1
  have g0 : ∀ w', SU w1 [rowBx b5 r, tabBx b1 vh vw] w' → w'.cell? (a.add (k * 4 + 0)) = some (.int .i64 row[k].txn) := fun w' h => (hc w' h.1).1
  have g5 : ∀ w', SU w1 [rowBx b5 r, tabBx b1 vh vw] w' → w'.cell? ⟨b5, 0, none⟩ = some (.int .i64 r.txn) := fun w' h => (rowB_cells (h.2.at_ 0 rfl)).1
  clear hc
  simp (disch := first | exact hne | assumption | omega) only [SX, SLX, add_add', add_mk, Nat.reduceAdd]
  rw [bool_dec]
  refine ⟨fun hx => ?_, fun hx => ?_⟩
  rotate_left
  · simp (disch := first | assumption | omega) only [e1, PX, w64]
    exact fin fun _ => decide_eq_false hx
  have hdd : SU w1 [rowBx b5 r, tabBx b1 vh vw] w2.drew.drew := SU.drew hd.1 hd.2
  refine st_draw (SU w1 [rowBx b5 r, tabBx b1 vh vw]) hdd ?_
  simp (disch := first | exact hne | assumption | omega) only [SX, SLX, add_add', add_mk, Nat.reduceAdd]
  rw [step_run (build_ed _ _ _)]
  refine st_keepT (fun _ => True) trivial ?_
  refine st_put (hLd.upd (Upd.drew _ [])) (by omega) (r.txn, row[k].txn) (P' := fun e => P e ∨ (e.1 = r.txn ∧ ∃ q ∈ row.take (k + 1), q.txn = e.2)) (fun x => ?_) fun u' w3 L3 hL3 hU3 => ?_
  · rw [List.take_succ_eq_append_getElem hk']
    constructor
    · rintro (h | ⟨h1, q, hq, h2⟩)
      · exact .inr (.inl h)
      · rcases List.mem_append.1 hq with hq | hq
        · exact .inr (.inr ⟨h1, q, hq, h2⟩)
        · rw [List.mem_singleton] at hq; subst hq
          exact .inl (Prod.ext h1 h2.symm)
    · rintro (rfl | h | ⟨h1, q, hq, h2⟩)
      · exact .inr ⟨rfl, row[k], List.mem_append_right _ (List.mem_singleton.2 rfl), rfl⟩
      · exact .inl h
      · exact .inr ⟨h1, q, List.mem_append_left _ hq, h2⟩
  refine st_keepT (fun _ => True) trivial ?_
  simp (disch := first | assumption | omega) only [f1, PX, w64]
  refine ⟨⟨k + 1, L3, by omega, rfl, hL3, ⟨hdd.1.trans hU3, hdd.2.ext hU3⟩, fun q hq => ?_⟩, ?_⟩
  · rw [List.take_succ_eq_append_getElem hk'] at hq
    rcases List.mem_append.1 hq with hq | hq
    · exact hah q hq
    · rw [List.mem_singleton] at hq; subst hq; exact decide_eq_true hx
  · simp only [List.getD_cons_succ, List.getD_cons_zero, intOf]; omega
end
end Go.Proofs.YtakifgecgmdjcaaGreat

/- The document's edges, whole. -/
namespace Go.Proofs.YtakifgecgmdjcaaGreat
open Go Xf Go.RowKit
set_option linter.unusedVariables false
set_option linter.unusedSimpArgs false
set_option maxRecDepth 100000

section
variable {W w w' : World} {D : Rt} {r : Rw} {v : Value}
/-- who has the name and does not go beside -/
theorem rEdges_has {b1 b5 n : Nat} {vh vw u3 : Value} {L : List Ed} {P : Ed → Prop} {vs : List Value} {again : List Value → World → Prop} {Q : Value → World → Prop} {i : Nat} (hh : RdS W rwV 4 vh D.has) (hw : RdS W rwV 4 vw D.waits) (hlh : D.has.length ≤ 500) (hlw : D.waits.length ≤ 500) (hU : Upd W w []) (hO : Owns w [rowBx b5 r, tabBx b1 vh vw]) (hL : EdL w P n u3 L) (hn : n ≤ 800000) (e1 : vs.getD 1 undef = .int .i64 (i : Nat)) (hi : i ≤ 500)
    (hK : ∀ u' w' L', EdL w' (fun e => P e ∨ edgeRow D r e) (n + 1000) u' L' → Upd W w' [] → Owns w' [rowBx b5 r, tabBx b1 vh vw] → again [u', .int .i64 ((i + 1 : Nat) : Int)] w') :
  (std Tryz.prog).loop [u3, (.int .i64 0)] w fun dv_3 vs_3 w again_3 =>
  (std Tryz.prog).step (sLoad 25 (.pointer (some ⟨b1, 0, none⟩))) w fun v34_1 w =>
  (std Tryz.prog).step (sBuiltin .len #[25] 3 [false] [v34_1]) w fun v35_1 w =>
  (std Tryz.prog).step (sBin .lss 3 (.tmp 32) (.tmp 35) (vs_3.getD 1 undef) v35_1) w fun v36_1 w =>
  (std Tryz.prog).bool v36_1
  ((std Tryz.prog).step (sLoad 25 (.pointer (some ⟨b1, 0, none⟩))) w fun v40_1 w =>
  (std Tryz.prog).step (sIndexAddr 25 v40_1 (vs_3.getD 1 undef)) w fun v42_1 w =>
  (std Tryz.prog).step (sLoad 85 v42_1) w fun v43_1 w =>
  (std Tryz.prog).step (sAlloc 85) w fun v8_1 w =>
  (std Tryz.prog).step (sStore 85 v8_1 v43_1) w fun vx_2 w =>
  (std Tryz.prog).step (sFieldAddr 85 v8_1 0) w fun v44_1 w =>
  (std Tryz.prog).step (sLoad 3 v44_1) w fun v45_1 w =>
  (std Tryz.prog).step (sFieldAddr 85 (.pointer (some ⟨b5, 0, none⟩)) 0) w fun v46_1 w =>
  (std Tryz.prog).step (sLoad 3 v46_1) w fun v47_1 w =>
  (std Tryz.prog).step (sBin .neq 3 (.tmp 45) (.tmp 47) v45_1 v47_1) w fun v48_1 w =>
  (std Tryz.prog).bool v48_1
  ((std Tryz.prog).step (sFieldAddr 85 v8_1 1) w fun v50_1 w =>
  (std Tryz.prog).step (sLoad 9 v50_1) w fun v51_1 w =>
  (std Tryz.prog).step (sFieldAddr 85 (.pointer (some ⟨b5, 0, none⟩)) 1) w fun v52_1 w =>
  (std Tryz.prog).step (sLoad 9 v52_1) w fun v53_1 w =>
  (std Tryz.prog).step (sBin .eql 9 (.tmp 51) (.tmp 53) v51_1 v53_1) w fun v54_1 w =>
  (std Tryz.prog).bool v54_1
  ((std Tryz.prog).step (sFieldAddr 85 v8_1 2) w fun v57_1 w =>
  (std Tryz.prog).step (sLoad 29 v57_1) w fun v58_1 w =>
  (std Tryz.prog).calls 40 #[v58_1, .int .i64 (wouldD D r.txn r.name r.mode)] w fun v60_1 w =>
  (std Tryz.prog).step (sUn .not v60_1) w fun v61_1 w =>
  (std Tryz.prog).bool v61_1
  ((std Tryz.prog).step (sFieldAddr 85 (.pointer (some ⟨b5, 0, none⟩)) 0) w fun v64_1 w =>
  (std Tryz.prog).step (sLoad 3 v64_1) w fun v65_1 w =>
  (std Tryz.prog).step (sFieldAddr 85 v8_1 0) w fun v66_1 w =>
  (std Tryz.prog).step (sLoad 3 v66_1) w fun v67_1 w =>
  (std Tryz.prog).step (sBuild 78 [(0, v65_1), (1, v67_1)]) w fun v68_1 w =>
  (std Tryz.prog).calls 41 #[(vs_3.getD 0 undef), v68_1] w fun v69_1 w =>
  flotillaref13_Edges_k4 (std Tryz.prog) vs_3 again_3 v69_1 w Q)
  (flotillaref13_Edges_k4 (std Tryz.prog) vs_3 again_3 (vs_3.getD 0 undef) w Q))
  (flotillaref13_Edges_k5 (std Tryz.prog) vs_3 again_3 w Q))
  (flotillaref13_Edges_k5 (std Tryz.prog) vs_3 again_3 w Q))
  (flotillaref13_Edges_k3 (std Tryz.prog) (.pointer (some ⟨b1, 0, none⟩)) vs again (.pointer (some ⟨b5, 0, none⟩)) (vs_3.getD 0 undef) w Q) := by
  obtain ⟨A, c, rfl, hll⟩ := rdS_len hh
  refine st_loop (fun vs3 w' => ∃ (k : Nat) (L : List Ed), k ≤ D.has.length ∧ vs3.getD 1 undef = .int .i64 k ∧ EdL w' (fun e => P e ∨ edgeHas D r (D.has.take k) e) (n + k) (vs3.getD 0 undef) L ∧ SU W [rowBx b5 r, tabBx b1 (.slice A D.has.length c) vw] w') (fun vs3 _ => D.has.length - (intOf (vs3.getD 1 undef)).toNat) ⟨0, L, Nat.zero_le _, rfl, ⟨hL.rd, hL.pw, fun e => by rw [hL.mem]; simp [edgeHas], hL.len⟩, ⟨hU, hO⟩⟩ ?_
  rintro dv3 vs3 w2 - ⟨k, L2, hk, f1, hL2, ⟨hU2, hO2⟩⟩
  obtain ⟨c0, -, -⟩ := tab_cells (hO2.at_ 1 rfl)
  simp (disch := first | assumption | omega) only [f1, PX, BX, LX, add_mk, Nat.reduceAdd]
  refine ⟨fun hlt => ?_, fun hge => ?_⟩
  rotate_left
  · obtain rfl : k = D.has.length := by omega
    rw [List.take_length] at hL2
    refine rEdges_k3 (n := n + D.has.length) hh hw hlw hU2 hO2 hL2 (by omega) e1 hi fun u' w' L' h1 h2 h3 => hK u' w' L' ⟨h1.rd, h1.pw, fun e => by rw [h1.mem]; unfold edgeRow; exact or_assoc, Nat.le_trans h1.len (by omega)⟩ h2 h3
  have hk' : k < D.has.length := by omega
  obtain ⟨a, c', q1, hc⟩ := rw_at hh hk'
  injection q1 with q1; subst q1
  obtain ⟨-, -, -, -, kl⟩ := hc w2 hU2
  simp (disch := first | assumption | omega) only [PX, BX, LX, add_mk, add_add', Nat.reduceAdd]
  rw [step_run (run_sLoad kl)]
  refine st_alloc ze85 (Upd.refl w2 []) hO2 ?_
  intro b8 w3 hU3 hO3 hb8
  refine st_storeN (vs := rwV D.has[k]) (by rw [sz85]; rfl) hU3 hO3 0 rfl (by show 0 + 4 ≤ 4; decide) (kind_rw.one _) (.inr hb8) ?_
  intro w4 hU24 hO4
  have hO4 : Owns w4 (rowBx b8 D.has[k] :: [rowBx b5 r, tabBx b1 (.slice (some a) D.has.length c) vw]) := hO4
  have hO4' := hO4.sub (List.sublist_cons_self ..)
  have hU4 := hU2.trans hU24
  have hL4 := hL2.upd hU24
  obtain ⟨c0, c1, c2⟩ := rowB_cells (hO4.at_ 0 rfl)
  obtain ⟨d0, d1, d2⟩ := rowB_cells (hO4.at_ 1 rfl)
  unfold flotillaref13_Edges_k5 flotillaref13_Edges_k4
  have skip : ∀ {w'' : World}, SU W [rowBx b5 r, tabBx b1 (.slice (some a) D.has.length c) vw] w'' → EdL w'' (fun e => P e ∨ edgeHas D r (D.has.take k) e) (n + k) (vs3.getD 0 undef) L2 → offB D r.txn r.name r.mode D.has[k] = false →
      (fun vs3' w' => (∃ (k : Nat) (L : List Ed), k ≤ D.has.length ∧ vs3'.getD 1 undef = .int .i64 k ∧ EdL w' (fun e => P e ∨ edgeHas D r (D.has.take k) e) (n + k) (vs3'.getD 0 undef) L ∧ SU W [rowBx b5 r, tabBx b1 (.slice (some a) D.has.length c) vw] w') ∧ D.has.length - (intOf (vs3'.getD 1 undef)).toNat < D.has.length - (intOf (Value.int .i64 k)).toNat) [vs3.getD 0 undef, .int .i64 ((k + 1 : Nat) : Int)] w'' := fun hs hL ho => by
    refine ⟨⟨k + 1, L2, by omega, rfl, ⟨hL.rd, hL.pw, fun e => ?_, Nat.le_trans hL.len (by omega)⟩, hs⟩, ?_⟩
    · rw [hL.mem, List.take_succ_eq_append_getElem hk']
      unfold edgeHas
      constructor
      · rintro (h | ⟨h1, q, hq, h2⟩)
        · exact .inl h
        · exact .inr ⟨h1, q, List.mem_append_left _ hq, h2⟩
      · rintro (h | ⟨h1, q, hq, h2, h3⟩)
        · exact .inl h
        · rcases List.mem_append.1 hq with hq | hq
          · exact .inr ⟨h1, q, hq, h2, h3⟩
          · rw [List.mem_singleton] at hq; subst hq; rw [ho] at h2; cases h2
    · simp only [List.getD_cons_succ, List.getD_cons_zero, intOf]; omega
  simp (disch := first | assumption | omega) only [f1, PX, BX, LX, add_mk, add_add', Nat.reduceAdd, mk_inj, w64]
  refine ⟨fun hx => ⟨fun hs => ?_, fun hs => ?_⟩, fun hx => ?_⟩
  · refine st_call (rBeside_spec _ _ _) ?_
    rintro _ w5 ⟨rfl, rfl⟩
    simp (disch := first | assumption | omega) only [f1, PX, BX, LX, add_mk, Nat.reduceAdd, w64]
    rw [bool_var]
    refine ⟨fun hb => ?_, fun hb => ?_⟩
    · exact skip ⟨hU4, hO4'⟩ hL4 (by unfold offB; rw [hb, Bool.not_true, Bool.and_false])
    · have ho : offB D r.txn r.name r.mode D.has[k] = true := by
        unfold offB
        rw [decide_eq_true (⟨hx, hs⟩ : _ ∧ _), Bool.true_and, hb]; rfl
      rw [step_run (build_ed _ _ _)]
      refine st_put hL4 (by omega) (r.txn, D.has[k].txn) (P' := fun e => P e ∨ edgeHas D r (D.has.take (k + 1)) e) (fun x => ?_) fun u' w6 L3 hL3 hU6 => ?_
      · rw [List.take_succ_eq_append_getElem hk']
        unfold edgeHas
        constructor
        · rintro (h | ⟨h1, q, hq, h2, h3⟩)
          · exact .inr (.inl h)
          · rcases List.mem_append.1 hq with hq | hq
            · exact .inr (.inr ⟨h1, q, hq, h2, h3⟩)
            · rw [List.mem_singleton] at hq; subst hq
              exact .inl (Prod.ext h1 h3.symm)
        · rintro (rfl | h | ⟨h1, q, hq, h2, h3⟩)
          · exact .inr ⟨rfl, D.has[k], List.mem_append_right _ (List.mem_singleton.2 rfl), ho, rfl⟩
          · exact .inl h
          · exact .inr ⟨h1, q, List.mem_append_left _ hq, h2, h3⟩
      refine ⟨⟨k + 1, L3, by omega, rfl, hL3, ⟨hU4.trans hU6, hO4'.ext hU6⟩⟩, ?_⟩
      simp only [List.getD_cons_succ, List.getD_cons_zero, intOf]; omega
  · exact skip ⟨hU4, hO4'⟩ hL4 (by unfold offB; rw [decide_eq_false (fun h => hs h.2), Bool.false_and])
  · exact skip ⟨hU4, hO4'⟩ hL4 (by unfold offB; rw [decide_eq_false (fun h => hx h.1), Bool.false_and])
theorem rEdges_spec (h : RdT w v D) (hlh : D.has.length ≤ 500) (hlw : D.waits.length ≤ 500) : CallsR Tryz.prog 13 #[v] w fun u w' => ∃ L, EdL w' (edgeD D) 500000 u L ∧ Upd w w' [] := by
  apply flotillaref13_Edges_sound
  unfold flotillaref13_Edges_x flotillaref13_Edges_k1
  have hT := h
  obtain ⟨vh, vw, rfl, hh, hw⟩ := h
  obtain ⟨A, c, rfl, hll⟩ := rdS_len hw
  refine st_box (Upd.refl w []) (Owns.nil w) ?_
  intro b1 w1 hU1 hO1 hb1
  have hO1 : Owns w1 [tabBx b1 vh (.slice A D.waits.length c)] := hO1
  have hnil : ∀ w : World, RdS w edV 2 (.slice none 0 0) ([] : List Ed) := fun w => ⟨none, 0, rfl, Nat.zero_le _, Rd.nil_ _ _⟩
  refine st_loop (fun vs w' => ∃ (i : Nat) (L : List Ed), i ≤ D.waits.length ∧ vs.getD 1 undef = .int .i64 i ∧ EdL w' (fun e => ∃ r ∈ D.waits.take i, edgeRow D r e) (i * 1000) (vs.getD 0 undef) L ∧ SU w [tabBx b1 vh (.slice A D.waits.length c)] w') (fun vs _ => D.waits.length - (intOf (vs.getD 1 undef)).toNat) ⟨0, [], Nat.zero_le _, rfl, ⟨hnil _, List.Pairwise.nil, fun e => by simp, Nat.zero_le _⟩, ⟨hU1, hO1⟩⟩ ?_
  rintro dv vs w2 - ⟨i, L, hi, e1, hL, ⟨hU2, hO2⟩⟩
  obtain ⟨-, c0, -⟩ := tab_cells (hO2.at_ 0 rfl)
  simp (disch := first | assumption | omega) only [e1, PX, BX, LX, add_mk, Nat.reduceAdd]
  refine ⟨fun hlt => ?_, fun hge => ?_⟩
  rotate_left
  · obtain rfl : i = D.waits.length := by omega
    rw [List.take_length] at hL
    exact ⟨L, ⟨hL.rd, hL.pw, hL.mem, Nat.le_trans hL.len (by omega)⟩, hU2⟩
  have hi' : i < D.waits.length := by omega
  obtain ⟨a, c', q1, hc⟩ := rw_at hw hi'
  injection q1 with q1; subst q1
  obtain ⟨-, -, -, -, kl⟩ := hc w2 hU2
  simp (disch := first | assumption | omega) only [PX, BX, LX, add_mk, add_add', Nat.reduceAdd]
  rw [step_run (run_sLoad kl)]
  refine st_alloc ze85 (Upd.refl w2 []) hO2 ?_
  intro b5 w3 hU3 hO3 hb5
  refine st_storeN (vs := rwV D.waits[i]) (by rw [sz85]; rfl) hU3 hO3 0 rfl (by show 0 + 4 ≤ 4; decide) (kind_rw.one _) (.inr hb5) ?_
  intro w4 hU24 hO4
  have hO4 : Owns w4 (rowBx b5 D.waits[i] :: [tabBx b1 vh (.slice (some a) D.waits.length c)]) := hO4
  have hL4 := hL.upd hU24
  have hd : SU w [rowBx b5 D.waits[i], tabBx b1 vh (.slice (some a) D.waits.length c)] w4.drew := SU.drew (hU2.trans hU24) hO4
  have hLd := hL4.upd (Upd.drew w4 [])
  have hne : ∃ w', SU w [rowBx b5 D.waits[i], tabBx b1 vh (.slice (some a) D.waits.length c)] w' := ⟨_, hd⟩
  refine st_draw (SU w [rowBx b5 D.waits[i], tabBx b1 vh (.slice (some a) D.waits.length c)]) hd ?_
  have g0 : ∀ w', SU w [rowBx b5 D.waits[i], tabBx b1 vh (.slice (some a) D.waits.length c)] w' → w'.cell? ⟨b5, 0, none⟩ = some (.int .i64 D.waits[i].txn) := fun w' h => (rowB_cells (h.2.at_ 0 rfl)).1
  have g1 : ∀ w', SU w [rowBx b5 D.waits[i], tabBx b1 vh (.slice (some a) D.waits.length c)] w' → w'.cell? ⟨b5, 1, none⟩ = some (strV D.waits[i].name) := fun w' h => (rowB_cells (h.2.at_ 0 rfl)).2.1
  have g2 : ∀ w', SU w [rowBx b5 D.waits[i], tabBx b1 vh (.slice (some a) D.waits.length c)] w' → w'.cell? ⟨b5, 2, none⟩ = some (.int .i64 D.waits[i].mode) := fun w' h => (rowB_cells (h.2.at_ 0 rfl)).2.2
  rw [stepS_run hne fun w' hs => run_sLoad (tab_cells (hs.2.at_ 1 rfl)).2.2]
  simp (disch := first | exact hne | assumption | omega) only [SX, SLX, add_mk, Nat.reduceAdd]
  refine st_call (rMode_spec (hT.mono hd.1) _ _) ?_
  rintro _ w5 ⟨rfl, hU5⟩
  refine st_same ⟨hd.1.trans hU5, hd.2.ext hU5⟩ ?_
  refine st_call (rJoin_spec _ _ _) ?_
  rintro _ w6 ⟨rfl, rfl⟩
  refine st_keepT (fun _ => True) trivial ?_
  have hwd : ((joi (sureN (modeD D D.waits[i].txn D.waits[i].name)) (sureN D.waits[i].mode) : Nat) : Int) = wouldD D D.waits[i].txn D.waits[i].name D.waits[i].mode := rfl
  rw [hwd]
  refine rEdges_has (W := w) (r := D.waits[i]) (n := i * 1000) hh hw hlh hlw (hd.1.trans hU5) (hd.2.ext hU5) (hLd.upd hU5) (by omega) e1 (by omega) fun u' w' L' h1 h2 h3 => ?_
  refine ⟨⟨i + 1, L', by omega, rfl, ⟨h1.rd, h1.pw, fun e => ?_, Nat.le_trans h1.len (by omega)⟩, ⟨h2, h3.sub (List.sublist_cons_self ..)⟩⟩, ?_⟩
  · rw [h1.mem, List.take_succ_eq_append_getElem hi']
    constructor
    · rintro (⟨r, hr, h⟩ | h)
      · exact ⟨r, List.mem_append_left _ hr, h⟩
      · exact ⟨_, List.mem_append_right _ (List.mem_singleton.2 rfl), h⟩
    · rintro ⟨r, hr, h⟩
      rcases List.mem_append.1 hr with hr | hr
      · exact .inl ⟨r, hr, h⟩
      · rw [List.mem_singleton] at hr; subst hr; exact .inr h
  · simp only [List.getD_cons_succ, List.getD_cons_zero, intOf]; omega
end
end Go.Proofs.YtakifgecgmdjcaaGreat

/- The document's rings: numbers put in their place, in a row of one's own. -/
namespace Go.Proofs.YtakifgecgmdjcaaGreat
open Go Xf Go.RowKit
set_option linter.unusedVariables false
set_option linter.unusedSimpArgs false
set_option maxRecDepth 100000

theorem ints_flat (l : List Int) : l.flatMap inV = intsV .i64 l := by
  induction l with
  | nil => rfl
  | cons x l ih => simp only [List.flatMap_cons, ih, intsV, List.map_cons]; rfl
theorem insAt_split {α : Type} (A B : List α) (p x : α) : insAt (A ++ p :: B) (A.length + 1) x = A ++ p :: x :: B ∧ insAt (A ++ p :: B) A.length x = A ++ x :: p :: B := by
  unfold insAt
  constructor
  · rw [show A ++ p :: B = (A ++ [p]) ++ B by simp, show A.length + 1 = (A ++ [p]).length by simp, List.take_left, List.drop_left]; simp
  · rw [List.take_left, List.drop_left]; simp
theorem set_mid {α : Type} (A B : List α) (p x : α) : ((A ++ p :: x :: B).set (A.length + 1) p).set A.length x = A ++ x :: p :: B := by
  rw [List.set_append_right _ _ (by omega), Nat.add_sub_cancel_left, List.set_append_right _ _ (Nat.le_refl _), Nat.sub_self]; rfl
theorem insAt_swap {α : Type} {l : List α} {k : Nat} (x : α) (h0 : 0 < k) (hk : k ≤ l.length) : ((insAt l k x).set k (l[k - 1]'(by omega))).set (k - 1) x = insAt l (k - 1) x := by
  have hk1 : k - 1 < l.length := by omega
  have e : l = l.take (k - 1) ++ l[k - 1] :: l.drop k := by
    conv => lhs; rw [← List.take_append_drop (k - 1) l, List.drop_eq_getElem_cons hk1]
    rw [show k - 1 + 1 = k by omega]
  have hA : (l.take (k - 1)).length = k - 1 := by rw [List.length_take]; omega
  generalize l[k - 1] = p at e
  generalize hAA : l.take (k - 1) = A at e hA
  generalize hBB : l.drop k = B at e
  obtain ⟨e1, e2⟩ := insAt_split A B p x
  rw [← e] at e1 e2
  rw [hA] at e2
  rw [hA, show k - 1 + 1 = k by omega] at e1
  rw [e1, e2]
  have := set_mid A B p x
  rw [hA, show k - 1 + 1 = k by omega] at this
  exact this
section
variable {α : Type} {W w w' : World} {F : List (Nat × Obj)} {K : Value → World → Prop}
theorem OutG.alloc {t : TypeId} {k : Nat} {f : α → List Value} {l : List α} {v : Value} (h : OutG t k f W F l v w) {tt : TypeId} {z : Value} (hz : (Tryz.prog.info? tt).bind (·.zero) = some z)
    (hK : ∀ g w', OutG t k f W ((g, .cells z.cells tt) :: F) l v w' → W.heap.size ≤ g → Upd w w' [] → K (.pointer (some ⟨g, 0, none⟩)) w') : (std Tryz.prog).step (sAlloc tt) w K := by
  obtain ⟨hr, hrow, hO, hU, hm⟩ := h
  refine st_alloc hz (Upd.refl w []) hO ?_
  intro g w1 hU1 hO1 hg
  refine hK g w1 ⟨hr, hrow, hO1.perm ?_, hU.trans hU1, hm⟩ (Nat.le_trans hU.size hg) hU1
  classical
  refine List.perm_iff_count.2 fun y => ?_
  simp only [List.count_cons, List.count_append]
  omega
/-- a number of a row of one's own, written anew -/
theorem OutG.setI {l : List Int} {v : Value} (h : OutG 3 1 inV W F l v w) {a : Addr} {n c : Nat} (hv : v = .slice (some a) n c) {j : Nat} (hj : j < l.length) (y : Int)
    (hK : ∀ w', OutG 3 1 inV W F (l.set j y) v w' → K undef w') : (std Tryz.prog).step (sStore 3 (.pointer (some (a.add j))) (.int .i64 y)) w K := by
  obtain ⟨hr, hrow, hO, hU, hm⟩ := h
  rcases hrow.2 with ⟨h1, h2, _⟩ | ⟨g, cap, cs, h1, rfl, hcap, hmax, hsz, htk⟩
  · rw [hv] at h1; cases h1
  · rw [hv] at h1
    injection h1 with q1 q2 q3
    injection q1 with q1
    subst q1
    rw [add_mk, Nat.zero_add]
    rw [Nat.mul_one] at hsz
    refine st_storeB sz3 rfl hU hO 0 rfl (by omega) (.inr (Nat.zero_le _)) (hm _ (List.mem_singleton.2 rfl)) ?_
    intro w' hU' hO'
    refine hK w' ⟨[(g, .cells (cs.setIfInBounds j (.int .i64 y)) 3 (0, 0))], ⟨by rw [ints_flat]; unfold intsV; simp, .inr ⟨g, cap, _, by rw [hv, q2, q3]; simp, rfl, by simpa using hcap, hmax, by simpa using hsz, ?_⟩⟩, hO', hU', fun p hp => ?_⟩
    · rw [List.length_set, Nat.mul_one, Array.toList_setIfInBounds, List.take_set]
      rw [Nat.mul_one] at htk
      rw [htk, ints_flat, ints_flat]
      unfold intsV
      rw [List.map_set]
    · rw [List.mem_singleton] at hp; subst hp
      exact hm (g, .cells cs 3 (0, 0)) (List.mem_singleton.2 rfl)
theorem OutG.intAt {l : List Int} {v : Value} (h : OutG 3 1 inV W F l v w) {a : Addr} {n c : Nat} (hv : v = .slice (some a) n c) {j : Nat} (hj : j < l.length) : ∀ w', Upd w w' [] → w'.cell? (a.add j) = some (.int .i64 l[j]) := by
  obtain ⟨hr, hrow, hO, hU, hm⟩ := h
  intro w' hU'
  rcases hrow.2 with ⟨h1, h2, _⟩ | ⟨g, cap, cs, h1, rfl, hcap, hmax, hsz, htk⟩
  · rw [hv] at h1; cases h1
  · rw [hv] at h1
    injection h1 with q1 q2 q3
    injection q1 with q1
    subst q1
    rw [add_mk, Nat.zero_add, cell_at ((hO.ext hU').at_ 0 rfl)]
    have h3 : (l.flatMap inV)[j]? = some (.int .i64 l[j]) := by rw [ints_flat]; unfold intsV; simp [hj]
    rw [← htk, List.getElem?_take, if_pos (by omega)] at h3
    simpa using h3
theorem in_at {v : Value} {l : List Int} {i : Nat} (hr : RdS W inV 1 v l) (hi : i < l.length) : ∃ a c, v = .slice (some a) l.length c ∧ ∀ w', Upd W w' [] → w'.cell? (a.add i) = some (.int .i64 l[i]) := by
  obtain ⟨A, c, rfl, hm, hrd⟩ := hr
  obtain ⟨a, rfl, hx⟩ := Rd.row (f := inV) (k := 1) (fun _ => rfl) (by omega) hrd hi
  have e : ((i : Nat) : Int).toNat = i := by omega
  rw [e] at hx
  exact ⟨a, c, rfl, fun w' hU => by have := hx w' hU 0 _ rfl; rw [Nat.mul_one, Nat.add_zero] at this; exact this⟩
theorem RdS.ints {v : Value} {l : List Int} (h : RdS w inV 1 v l) : Rd w 1 v l.length (intsV .i64 l) := by
  obtain ⟨A, c, rfl, -, hr⟩ := h
  rw [← ints_flat]; exact hr
/-- the loop that moves a number to its place -/
theorem ins_loop {o1 o2 o3 o4 o5 o6 o7 o8 o9 o10 o11 o12 : Operand} {src v35 : Value} {lsrc l : List Int} {i : Nat} {R : World → Prop} (hsrc : RdS W inV 1 src lsrc) (hi : i < lsrc.length) (hG : OutG 3 1 inV W F (l ++ [lsrc[i]]) v35 w) (hp : l.Pairwise (· < ·)) (hnx : lsrc[i] ∉ l) (hl : l.length ≤ 1000000)
    (hR : ∀ w' l', OutG 3 1 inV W F l' v35 w' → l'.Pairwise (· < ·) → (∀ y, y ∈ l' ↔ y = lsrc[i] ∨ y ∈ l) → l'.length = l.length + 1 → R w') :
  (std Tryz.prog).loop [.int .i64 (l.length : Nat)] w fun dv_2 vs_2 w again_2 =>
  (std Tryz.prog).draw w fun S_1 w =>
  (std Tryz.prog).stepS S_1 (sBin .gtr 3 o1 o2 (vs_2.getD 0 undef) (.int .i64 0)) fun v37_1 =>
  (std Tryz.prog).bool v37_1
  ((std Tryz.prog).stepS (fun _ => True) (sBin .sub 3 o3 o4 (vs_2.getD 0 undef) (.int .i64 1)) fun v41_1 =>
  (std Tryz.prog).stepS S_1 (sIndexAddr 44 v35 v41_1) fun v42_1 =>
  (std Tryz.prog).stepS S_1 (sLoad 3 v42_1) fun v43_1 =>
  (std Tryz.prog).stepS S_1 (sIndexAddr 44 src (.int .i64 (i : Nat))) fun v46_1 =>
  (std Tryz.prog).stepS S_1 (sLoad 3 v46_1) fun v47_1 =>
  (std Tryz.prog).stepS S_1 (sBin .gtr 3 o5 o6 v43_1 v47_1) fun v48_1 =>
  (std Tryz.prog).bool v48_1
  ((std Tryz.prog).draw w fun S_2 w =>
  (std Tryz.prog).stepS (fun _ => True) (sBin .sub 3 o7 o8 (vs_2.getD 0 undef) (.int .i64 1)) fun v54_1 =>
  (std Tryz.prog).stepS (fun _ => True) (sBin .sub 3 o9 o10 (vs_2.getD 0 undef) (.int .i64 1)) fun v57_1 =>
  (std Tryz.prog).stepS S_2 (sIndexAddr 44 v35 v57_1) fun v58_1 =>
  (std Tryz.prog).stepS S_2 (sLoad 3 v58_1) fun v59_1 =>
  (std Tryz.prog).stepS S_2 (sIndexAddr 44 v35 (vs_2.getD 0 undef)) fun v62_1 =>
  (std Tryz.prog).stepS S_2 (sLoad 3 v62_1) fun v63_1 =>
  (std Tryz.prog).stepS S_2 (sIndexAddr 44 v35 (vs_2.getD 0 undef)) fun v64_1 =>
  (std Tryz.prog).step (sStore 3 v64_1 v59_1) w fun vx_1 w =>
  (std Tryz.prog).keepT w fun S_3 =>
  (std Tryz.prog).stepS S_3 (sIndexAddr 44 v35 v54_1) fun v65_1 =>
  (std Tryz.prog).step (sStore 3 v65_1 v63_1) w fun vx_2 w =>
  (std Tryz.prog).keepT w fun S_4 =>
  (std Tryz.prog).step (sBin .sub 3 o11 o12 (vs_2.getD 0 undef) (.int .i64 1)) w fun v67_1 w =>
  again_2 [v67_1] w)
  (R w))
  (R w) := by
  generalize hx : lsrc[i] = x at hG hnx hR
  obtain ⟨A0, c, hv⟩ := hG.len
  have hlen1 : (l ++ [x]).length = l.length + 1 := by simp
  obtain ⟨a, rfl⟩ : ∃ a, A0 = some a := by
    obtain ⟨hr, hrow, -⟩ := hG
    rcases hrow.2 with ⟨h1, h2, _⟩ | ⟨g, cap, cs, h1, -⟩
    · rw [hlen1] at h2; omega
    · rw [hv] at h1; injection h1 with q1; exact ⟨_, q1⟩
  rw [hlen1] at hv
  have hneT : ∃ w', (fun _ : World => True) w' := ⟨w, trivial⟩
  refine st_loop (fun vs w' => ∃ k : Nat, k ≤ l.length ∧ vs.getD 0 undef = .int .i64 k ∧ OutG 3 1 inV W F (insAt l k x) v35 w' ∧ ∀ y ∈ l.drop k, x < y) (fun vs _ => (intOf (vs.getD 0 undef)).toNat) ⟨l.length, Nat.le_refl _, rfl, by unfold insAt; rw [List.take_length, List.drop_length, List.append_nil]; exact hG, by rw [List.drop_length]; intro y hy; cases hy⟩ ?_
  rintro dv vs w1 - ⟨k, hk, e0, hG1, hgt⟩
  have hil : (insAt l k x).length = l.length + 1 := insAt_len x
  have hGd := hG1.upd (Upd.drew w1 [])
  have hne : ∃ w', (fun w' => Upd w1.drew w' []) w' := ⟨_, Upd.refl _ _⟩
  refine st_draw (fun w' => Upd w1.drew w' []) (Upd.refl _ _) ?_
  rw [e0, hv]
  have e1 : 0 < k → ((k : Nat) : Int) - 1 = ((k - 1 : Nat) : Int) := fun h => by omega
  simp (disch := first | exact hne | exact hneT | assumption | omega) only [SX]
  rw [bool_dec]
  have fin : (∀ y ∈ l.take k, y < x) → R w1.drew := fun h1 => by
    refine hR w1.drew (insAt l k x) hGd (insAt_pw (R := fun a b : Int => a < b) (fun a b c h1 h2 => by omega) hp h1 fun hk' => hgt _ (by rw [List.drop_eq_getElem_cons hk']; exact List.mem_cons_self ..)) (fun y => mem_insAt) hil
  refine ⟨fun hpos => ?_, fun hz => ?_⟩
  rotate_left
  · obtain rfl : k = 0 := by omega
    exact fin (by simp)
  have hpos : 0 < k := by omega
  have hk1 : k - 1 < l.length := by omega
  have hat : (insAt l k x)[k - 1]'(by omega) = l[k - 1] := by
    unfold insAt
    rw [List.getElem_append_left (by simp; omega), List.getElem_append_left (by simp; omega), List.getElem_take]
  have hatk : (insAt l k x)[k]'(by omega) = x := by
    unfold insAt
    have ht : (l.take k).length = k := by rw [List.length_take]; omega
    rw [List.getElem_append_left (by simp; omega), List.getElem_append_right (by omega)]
    simp
  obtain ⟨a2, c2, hs2, hc2⟩ := in_at hsrc hi
  have g0 : ∀ w', Upd w1.drew w' [] → w'.cell? (a.add (k - 1)) = some (.int .i64 l[k - 1]) := fun w' h => by rw [← hat]; exact hGd.intAt hv (by omega) w' h
  have g1 : ∀ w', Upd w1.drew w' [] → w'.cell? (a2.add i) = some (.int .i64 x) := fun w' h => by rw [← hx]; exact hc2 w' (hGd.U.trans h)
  rw [hs2]
  simp (disch := first | exact hne | exact hneT | assumption | omega) only [SX, SLX, w64, e1 hpos, Nat.mul_one]
  rw [bool_dec]
  refine ⟨fun hgt2 => ?_, fun hle => ?_⟩
  rotate_left
  · refine fin fun y hy => ?_
    have hlx : l[k - 1] < x := by
      have : l[k - 1] ≠ x := fun h => hnx (by rw [← h]; exact List.getElem_mem hk1)
      omega
    obtain ⟨j, hj, rfl⟩ := List.mem_iff_getElem.1 hy
    rw [List.getElem_take]
    have hj' : j < k := by simpa using Nat.lt_of_lt_of_le hj (List.length_take_le k l)
    rcases Nat.lt_or_ge j (k - 1) with h | h
    · have := List.pairwise_iff_getElem.1 hp j (k - 1) (by omega) hk1 h; omega
    · have : j = k - 1 := by omega
      subst this; exact hlx
  have hGdd := hGd.upd (Upd.drew w1.drew [])
  have hne2 : ∃ w', (fun w' => Upd w1.drew.drew w' []) w' := ⟨_, Upd.refl _ _⟩
  refine st_draw (fun w' => Upd w1.drew.drew w' []) (Upd.refl _ _) ?_
  have k0 : ∀ w', Upd w1.drew.drew w' [] → w'.cell? (a.add (k - 1)) = some (.int .i64 l[k - 1]) := fun w' h => by rw [← hat]; exact hGdd.intAt hv (by omega) w' h
  have k1 : ∀ w', Upd w1.drew.drew w' [] → w'.cell? (a.add k) = some (.int .i64 x) := fun w' h => by
    have := hGdd.intAt hv (j := k) (by omega) w' h
    rw [hatk] at this; exact this
  simp (disch := first | exact hne2 | exact hneT | assumption | omega) only [SX, SLX, w64, e1 hpos, Nat.mul_one]
  refine hGdd.setI hv (j := k) (by omega) l[k - 1] ?_
  intro w3 hG3
  refine st_keepT (fun _ => True) trivial ?_
  simp (disch := first | exact hneT | assumption | omega) only [SX, Nat.mul_one]
  refine hG3.setI hv (j := k - 1) (by rw [List.length_set]; omega) x ?_
  intro w4 hG4
  refine st_keepT (fun _ => True) trivial ?_
  rw [insAt_swap x hpos hk] at hG4
  simp (disch := first | assumption | omega) only [PX, w64, e1 hpos]
  refine ⟨⟨k - 1, by omega, rfl, by rw [← hv]; exact hG4, fun y hy => ?_⟩, ?_⟩
  · rw [List.drop_eq_getElem_cons hk1, show k - 1 + 1 = k by omega] at hy
    rcases List.mem_cons.1 hy with rfl | hy
    · exact hgt2
    · exact hgt y hy
  · simp only [List.getD_cons_zero, intOf]; omega
end
end Go.Proofs.YtakifgecgmdjcaaGreat

/- Locks: who stands first does not go; who goes, goes wholly. -/
namespace Go.Proofs.YtakifgecgmdjcaaGreat
open Go Xf Go.RowKit
set_option linter.unusedVariables false
set_option linter.unusedSimpArgs false
set_option maxRecDepth 100000

/-- who stands first does not go -/
def StuckN (ws : List (Int × Wt)) (n : Nm) : Prop := firstN n ≠ 0 → goesB n (firstN n) (wouldN n (firstN n) ((aGet ws (firstN n)).getD ⟨[], 0⟩).mode) = false
theorem rowsN_nil {n : Nm} (h : rowsN n = []) : firstN n = 0 := by
  unfold rowsN at h
  rw [List.append_eq_nil_iff] at h
  unfold firstN
  rw [h.1, h.2]
theorem firstN_rows {n : Nm} (h : firstN n ≠ 0) : ∃ l, rowsN n = firstN n :: l := by
  unfold firstN rowsN at *
  cases ht : n.turns with
  | cons x l => exact ⟨_, rfl⟩
  | nil =>
    cases hr : n.row with
    | cons x l => exact ⟨_, rfl⟩
    | nil => rw [ht, hr] at h; exact absurd rfl h
/-- one goes in -/
theorem GoodN.next {ws : List (Int × Wt)} {s : List UInt8} {n : Nm} (h : GoodN ws s n) (hk : Keys1 ws) (hx : firstN n ≠ 0) (hgo : goesB n (firstN n) (wouldN n (firstN n) ((aGet ws (firstN n)).getD ⟨[], 0⟩).mode) = true) :
    GoodN (aDel ws (firstN n)) s { leaveN n (firstN n) with held := aSet n.held (firstN n) (wouldN n (firstN n) ((aGet ws (firstN n)).getD ⟨[], 0⟩).mode) } := by
  have hmem : firstN n ∈ rowsN n := List.mem_append.2 (firstN_mem hx)
  obtain ⟨w, e1, e2, e3, e4, e5, e6, e7⟩ := h.rows _ hmem
  have hw : (aGet ws (firstN n)).getD ⟨[], 0⟩ = w := by rw [e1]; rfl
  rw [hw] at hgo ⊢
  refine h.give e3 e4 e5 e6 hgo rfl (fun y hy => mem_outN.1 hy) (fun y hy => mem_outN.1 hy) ?_ fun y w' hy hw' => ?_
  · show (rowsN (leaveN n (firstN n))).Nodup
    rw [rowsN_leave]; exact outN_nodup h.nodup _
  · rw [aGet_aDel hk, if_neg hy]; exact hw'
structure PassEnd (s : List UInt8) (n : Nm) (r : Nm × List (Int × Wt) × List Gr) : Prop where
  stuck : StuckN r.2.1 r.1
  held : ∀ y, (aGet r.1.held y).isSome = true → (aGet n.held y).isSome = true ∨ y ∈ rowsN n
  keep : ∀ y, (aGet n.held y).isSome = true → (aGet r.1.held y).isSome = true
  grants : ∀ g ∈ r.2.2, g.1 ∈ rowsN n ∧ g.2.name = s ∧ aGet r.2.1 g.1 = none ∧ (aGet r.1.held g.1).isSome = true
  rows : ∀ y ∈ rowsN r.1, y ∈ rowsN n
theorem isSome_aSet {l : List (Int × Int)} {k v y : Int} : (aGet (aSet l k v) y).isSome = true ↔ y = k ∨ (aGet l y).isSome = true := by
  rw [aGet_aSet]; split <;> simp_all
theorem passN_end {s : List UInt8} : ∀ (k : Nat) (n : Nm) (ws : List (Int × Wt)), GoodN ws s n → Keys1 ws → n.turns.length + n.row.length ≤ k → PassEnd s n (passN k n ws)
  | 0, n, ws, h, hk, hl => by
    have hr : rowsN n = [] := List.eq_nil_of_length_eq_zero (by unfold rowsN; rw [List.length_append]; omega)
    exact ⟨fun h => absurd (rowsN_nil hr) h, fun y h => .inl h, fun y h => h, fun g hg => (by cases hg), fun y h => h⟩
  | k + 1, n, ws, h, hk, hl => by
    by_cases hx : firstN n = 0
    · have e : passN (k + 1) n ws = (n, ws, []) := by unfold passN; rw [if_pos hx]
      rw [e]
      exact ⟨fun h => absurd hx h, fun y h => .inl h, fun y h => h, fun g hg => (by cases hg), fun y h => h⟩
    · have hmem : firstN n ∈ rowsN n := List.mem_append.2 (firstN_mem hx)
      by_cases hgo : goesB n (firstN n) (wouldN n (firstN n) ((aGet ws (firstN n)).getD ⟨[], 0⟩).mode) = true
      · rw [passN_go hx hgo]
        have hlt := leaveN_lt hx
        have hg := h.next hk hx hgo
        obtain ⟨w, e1, e2, -⟩ := h.rows _ hmem
        have hle : (outN n.turns (firstN n)).length + (outN n.row (firstN n)).length ≤ k := by omega
        have ih := passN_end k _ _ hg hk.del hle
        have ih2 := passN_good k _ _ hg hk.del hle
        have hrl : ∀ y, y ∈ rowsN { leaveN n (firstN n) with held := aSet n.held (firstN n) (wouldN n (firstN n) ((aGet ws (firstN n)).getD ⟨[], 0⟩).mode) } → y ∈ rowsN n := fun y hy => by
          have : y ∈ rowsN (leaveN n (firstN n)) := hy
          rw [rowsN_leave, mem_outN] at this
          exact this.1
        refine ⟨ih.stuck, fun y hy => ?_, fun y hy => ?_, fun g hg => ?_, fun y hy => hrl y (ih.rows y hy)⟩
        · rcases ih.held y hy with h1 | h1
          · rcases isSome_aSet.1 h1 with h2 | h2
            · exact .inr (by rw [h2]; exact hmem)
            · exact .inl h2
          · exact .inr (hrl y h1)
        · exact ih.keep y (isSome_aSet.2 (.inr hy))
        · rcases List.mem_cons.1 hg with rfl | hg
          · refine ⟨hmem, ?_, ?_, ih.keep _ (isSome_aSet.2 (.inl rfl))⟩
            · show ((aGet ws (firstN n)).getD ⟨[], 0⟩).name = s
              rw [e1]; exact e2
            · cases hh : aGet (passN k { leaveN n (firstN n) with held := aSet n.held (firstN n) (wouldN n (firstN n) ((aGet ws (firstN n)).getD ⟨[], 0⟩).mode) } (aDel ws (firstN n))).2.1 (firstN n) with
              | none => rfl
              | some w' =>
                have := ih2.2.2.1 _ _ hh
                rw [aGet_aDel hk, if_pos rfl] at this
                cases this
          · obtain ⟨a1, a2, a3, a4⟩ := ih.grants g hg
            exact ⟨hrl _ a1, a2, a3, a4⟩
      · have e : passN (k + 1) n ws = (n, ws, []) := by unfold passN; rw [if_neg hx, if_neg hgo]
        rw [e]
        exact ⟨fun _ => by simpa using hgo, fun y h => .inl h, fun y h => h, fun g hg => (by cases hg), fun y h => h⟩
theorem StuckN.ws {ws ws' : List (Int × Wt)} {n : Nm} (h : StuckN ws n) (he : firstN n ≠ 0 → aGet ws' (firstN n) = aGet ws (firstN n)) : StuckN ws' n := fun hx => by rw [he hx]; exact h hx
/-- the state while somebody goes: S holds of all who are left -/
structure EndX (S : Int → Prop) (l : List (List UInt8)) (txn : Int) (all : Bool) (T : Tb) : Prop where
  good : GoodX l txn T
  w : ∀ y wy, aGet T.waits y = some wy → S y
  h : ∀ s q, aGet T.names s = some q → ∀ y, (aGet q.2.held y).isSome = true → S y ∨ (all = true ∧ y = txn ∧ s ∈ l)
  st : ∀ s q, aGet T.names s = some q → StuckN T.waits q.2 ∨ (s ∈ l ∧ (txn ∈ rowsN q.2 ∨ (all = true ∧ (aGet q.2.held txn).isSome = true)))
/-- what is told of one who got something -/
def GotX (S : Int → Prop) (T : Tb) (g : Gr) : Prop := S g.1 ∧ aGet T.waits g.1 = none ∧ (hasT T g.1 g.2.name).isSome = true
/-- ahead of pass at s -/
theorem passT_end {S : Int → Prop} {l : List (List UInt8)} {txn : Int} {all : Bool} {T : Tb} {s : List UInt8} {q : Nat × Nm} {B : Nat} (hpre : PreX l txn T s) (hok : okT T B) (hs : s ∉ l) (hq : aGet T.names s = some q)
    (hw : ∀ y wy, aGet T.waits y = some wy → S y) (hh : ∀ y, (aGet q.2.held y).isSome = true → S y)
    (hoth : ∀ s' q', s' ≠ s → aGet T.names s' = some q' → (∀ y, (aGet q'.2.held y).isSome = true → S y ∨ (all = true ∧ y = txn ∧ s' ∈ l)) ∧ (StuckN T.waits q'.2 ∨ (s' ∈ l ∧ (txn ∈ rowsN q'.2 ∨ (all = true ∧ (aGet q'.2.held txn).isSome = true))))) :
    EndX S l txn all (passT T s q).1 ∧ ∀ g ∈ (passT T s q).2, GotX S (passT T s q).1 g ∧ g.2.name = s := by
  have hgood := passT_good hpre hok hs hq
  have hN := hpre.nm s q hq
  unfold virt at hN
  rw [if_neg hs] at hN
  obtain ⟨g1, g2, g3, g4, g5, g6⟩ := passN_good (q.2.turns.length + q.2.row.length) q.2 T.waits hN hok.wkeys (Nat.le_refl _)
  have pe := passN_end (q.2.turns.length + q.2.row.length) q.2 T.waits hN hok.wkeys (Nat.le_refl _)
  have hrow : ∀ y ∈ rowsN q.2, S y := fun y hy => by obtain ⟨w, e1, -⟩ := hN.rows y hy; exact hw y w e1
  have hws : ∀ s' q', s' ≠ s → aGet T.names s' = some q' → ∀ y ∈ rowsN (virt l txn s' q'.2), aGet (passN (q.2.turns.length + q.2.row.length) q.2 T.waits).2.1 y = aGet T.waits y := fun s' q' hne h' y hy => by
    obtain ⟨w, e1, e2, -⟩ := (hpre.nm s' q' h').rows y hy
    rw [e1]
    exact g4 y w e1 (by rw [e2]; exact hne)
  have hfin : ∀ s' q', aGet (passT T s q).1.names s' = some q' → (s' = s ∧ q'.2 = (passN (q.2.turns.length + q.2.row.length) q.2 T.waits).1) ∨ (s' ≠ s ∧ aGet T.names s' = some q') := fun s' q' h' => by
    unfold passT at h'
    by_cases he : s' = s
    · refine .inl ⟨he, ?_⟩
      simp only at h'
      split at h'
      · rw [aGet_aDel hok.keys, if_pos he] at h'; cases h'
      · rw [aGet_aSet, if_pos he] at h'; injection h' with h'; rw [← h']
    · refine .inr ⟨he, ?_⟩
      simp only at h'
      split at h'
      · rw [aGet_aDel hok.keys, if_neg he] at h'; exact h'
      · rw [aGet_aSet, if_neg he] at h'; exact h'
  have hwt : (passT T s q).1.waits = (passN (q.2.turns.length + q.2.row.length) q.2 T.waits).2.1 := rfl
  have hgr : (passT T s q).2 = (passN (q.2.turns.length + q.2.row.length) q.2 T.waits).2.2 := rfl
  refine ⟨⟨hgood, fun y wy hy => hw y wy (g3 y wy hy), fun s' q' h' y hy => ?_, fun s' q' h' => ?_⟩, fun g hg => ?_⟩
  · rcases hfin s' q' h' with ⟨rfl, e⟩ | ⟨hne, h2⟩
    · rw [e] at hy
      rcases pe.held y hy with h3 | h3
      · exact .inl (hh y h3)
      · exact .inl (hrow y h3)
    · exact (hoth s' q' hne h2).1 y hy
  · rcases hfin s' q' h' with ⟨rfl, e⟩ | ⟨hne, h2⟩
    · rw [e, hwt]; exact .inl pe.stuck
    · rcases (hoth s' q' hne h2).2 with h3 | h3
      · by_cases hv : s' ∈ l ∧ txn ∈ rowsN q'.2
        · exact .inr ⟨hv.1, .inl hv.2⟩
        · refine .inl (h3.ws fun hx => ?_)
          rw [hwt]
          refine hws s' q' hne h2 _ ?_
          have hm : firstN q'.2 ∈ rowsN q'.2 := List.mem_append.2 (firstN_mem hx)
          unfold virt
          split
          · rename_i hsl
            rw [rowsN_leave, mem_outN]
            exact ⟨hm, fun he => hv ⟨hsl, he ▸ hm⟩⟩
          · exact hm
      · exact .inr h3
  · rw [hgr] at hg
    obtain ⟨a1, a2, a3, a4⟩ := pe.grants g hg
    refine ⟨⟨hrow _ a1, by rw [hwt]; exact a3, ?_⟩, a2⟩
    have hne : (passN (q.2.turns.length + q.2.row.length) q.2 T.waits).1.held.length ≠ 0 := fun h0 => by
      rw [List.eq_nil_of_length_eq_zero h0] at a4; cases a4
    have : aGet (passT T s q).1.names s = some (q.1, (passN (q.2.turns.length + q.2.row.length) q.2 T.waits).1) := by
      unfold passT
      simp only
      rw [if_neg hne, aGet_aSet, if_pos rfl]
    unfold hasT
    rw [a2, this]; exact a4
theorem outN_not {l : List Int} {x : Int} (h : x ∉ l) : outN l x = l := by
  unfold outN
  exact List.filter_eq_self.2 fun y hy => by simp; exact fun he => h (he ▸ hy)
theorem leaveN_not {n : Nm} {x : Int} (h : x ∉ rowsN n) : leaveN n x = n := by
  unfold rowsN at h
  rw [List.mem_append, not_or] at h
  unfold leaveN
  rw [outN_not h.1, outN_not h.2]
theorem outN_same {l : List Int} {x : Int} (h : (outN l x).length = l.length) : x ∉ l := fun hm => by have := outN_lt hm; omega
theorem leftB_not {n : Nm} {x : Int} (h : leftB n x = false) : x ∉ rowsN n := by
  unfold leftB at h
  have h := of_decide_eq_false h
  have h1 := outN_le n.turns x
  have h2 := outN_le n.row x
  unfold rowsN
  rw [List.mem_append, not_or]
  exact ⟨outN_same (by omega), outN_same (by omega)⟩
end Go.Proofs.YtakifgecgmdjcaaGreat

/- Locks: somebody goes, whole; what is asked for leaves who stands first where it was. -/
namespace Go.Proofs.YtakifgecgmdjcaaGreat
open Go Xf Go.RowKit
set_option linter.unusedVariables false
set_option linter.unusedSimpArgs false
set_option maxRecDepth 100000

theorem preX_of {l : List (List UInt8)} {txn : Int} {T : Tb} {s : List UInt8} {q : Nat × Nm} (h : GoodX (s :: l) txn T) (hs : s ∉ l) (hq : aGet T.names s = some q) (n : Nm) (hn : GoodN T.waits s n) (hr : rowsN n = rowsN (leaveN q.2 txn)) : PreX l txn (putN T s (q.1, n)) s := by
  have vne : ∀ s' n, s' ≠ s → virt (s :: l) txn s' n = virt l txn s' n := fun s' n hne => by
    unfold virt
    by_cases hm : s' ∈ l
    · rw [if_pos hm, if_pos (List.mem_cons_of_mem _ hm)]
    · rw [if_neg hm, if_neg (by simp [hne, hm])]
  have veq : ∀ n, virt l txn s n = n := fun n => by unfold virt; rw [if_neg hs]
  refine ⟨fun s' q' h' => ?_, fun x w hx => ?_, fun s' q' hne h' => ?_⟩
  · rw [putN, aGet_aSet] at h'
    split at h'
    · rename_i he; injection h' with h'; subst h' he
      rw [veq]; exact hn
    · rename_i hne
      rw [← vne s' _ hne]; exact h.nm s' q' h'
  · obtain ⟨q', h1, h2⟩ := h.conv x w hx
    by_cases he : w.name = s
    · rw [he] at h1 h2
      rw [hq] at h1; injection h1 with h1; subst h1
      unfold virt at h2; rw [if_pos (List.mem_cons_self ..)] at h2
      refine ⟨(q.1, n), by rw [putN, aGet_aSet, if_pos he], ?_⟩
      rw [he, veq, hr]; exact h2
    · exact ⟨q', by rw [putN, aGet_aSet, if_neg he]; exact h1, by rw [← vne _ _ he]; exact h2⟩
  · rw [putN, aGet_aSet, if_neg hne] at h'
    exact h.live s' q' h'
theorem goneS_end {S : Int → Prop} {l : List (List UInt8)} {txn : Int} {all : Bool} {T : Tb} {s : List UInt8} {q : Nat × Nm} {B : Nat} (h : EndX S (s :: l) txn all T) (hok : okT T B) (hs : s ∉ l) (hq : aGet T.names s = some q) :
    EndX S l txn all (goneS T s q txn all).1 ∧ ∀ g ∈ (goneS T s q txn all).2, GotX S (goneS T s q txn all).1 g ∧ g.2.name = s := by
  have hN := h.good.nm s q hq
  unfold virt at hN
  rw [if_pos (List.mem_cons_self ..)] at hN
  have hokn := hok.nm s q hq
  have oth : ∀ n : Nm, ∀ s' q', s' ≠ s → aGet (putN T s (q.1, n)).names s' = some q' → (∀ y, (aGet q'.2.held y).isSome = true → S y ∨ (all = true ∧ y = txn ∧ s' ∈ l)) ∧ (StuckN T.waits q'.2 ∨ (s' ∈ l ∧ (txn ∈ rowsN q'.2 ∨ (all = true ∧ (aGet q'.2.held txn).isSome = true)))) := fun n s' q' hne h' => by
    rw [get_putN_ne _ _ hne] at h'
    refine ⟨fun y hy => ?_, ?_⟩
    · rcases h.h s' q' h' y hy with h1 | ⟨h1, h2, h3⟩
      · exact .inl h1
      · exact .inr ⟨h1, h2, (List.mem_cons.1 h3).resolve_left hne⟩
    · rcases h.st s' q' h' with h1 | ⟨h1, h2⟩
      · exact .inl h1
      · exact .inr ⟨(List.mem_cons.1 h1).resolve_left hne, h2⟩
  have gg := goneS_good all h.good hok hs hq
  unfold goneS at gg ⊢
  split
  · rename_i hc
    rw [Bool.and_eq_true] at hc
    refine passT_end (preX_of h.good hs hq { leaveN q.2 txn with held := aDel q.2.held txn } (hN.held_eq hokn.2.2 (not_mem_leave _ _)) rfl) (hok.put hq (q := (q.1, { leaveN q.2 txn with held := aDel q.2.held txn })) (okN.del (n := leaveN q.2 txn) (hokn.leave txn) txn)) hs (get_putN _ _ _) h.w (fun y hy => ?_) (oth _)
    have hy : (aGet (aDel q.2.held txn) y).isSome = true := hy
    rw [aGet_aDel hokn.2.2] at hy
    split at hy
    · cases hy
    · rename_i hne
      exact (h.h s q hq y hy).elim id fun ⟨_, h2, _⟩ => absurd h2 hne
  · rename_i hc
    have hno : all = true → (aGet q.2.held txn).isSome = false := fun ha => by
      rw [ha, Bool.and_true] at hc
      simpa using hc
    have hS : ∀ y, (aGet q.2.held y).isSome = true → S y := fun y hy => (h.h s q hq y hy).elim id fun ⟨h1, h2, _⟩ => by
      rw [h2] at hy; rw [hno h1] at hy; cases hy
    split
    · exact passT_end (preX_of h.good hs hq _ hN rfl) (hok.put hq (q := (q.1, leaveN q.2 txn)) (hokn.leave txn)) hs (get_putN _ _ _) h.w hS (oth _)
    · rename_i hl
      rw [if_neg hc, if_neg hl] at gg
      have hl := leftB_not (by simpa using hl)
      refine ⟨⟨gg, h.w, fun s' q' h' y hy => ?_, fun s' q' h' => ?_⟩, fun g hg => (by cases hg)⟩
      · by_cases he : s' = s
        · subst he
          rw [get_putN] at h'
          injection h' with h'; subst h'
          exact .inl (hS y hy)
        · exact (oth _ s' q' he h').1 y hy
      · by_cases he : s' = s
        · subst he
          rw [get_putN] at h'
          injection h' with h'; subst h'
          rw [leaveN_not hl]
          rcases h.st s' q hq with h1 | ⟨-, h1 | ⟨h1, h2⟩⟩
          · exact .inl h1
          · exact absurd h1 hl
          · rw [hno h1] at h2; cases h2
        · exact (oth _ s' q' he h').2
theorem passN_shrink {y : Int} : ∀ (k : Nat) (n : Nm) (ws : List (Int × Wt)), Keys1 ws → aGet ws y = none → aGet (passN k n ws).2.1 y = none
  | 0, n, ws, _, h => h
  | k + 1, n, ws, hk, h => by
    unfold passN
    split
    · exact h
    · split
      · exact passN_shrink k _ _ hk.del (by rw [aGet_aDel hk]; split; rfl; exact h)
      · exact h
theorem goneS_shrink {T : Tb} {B : Nat} {s : List UInt8} {q : Nat × Nm} {txn : Int} {all : Bool} {y : Int} (hok : okT T B) (h : aGet T.waits y = none) : aGet (goneS T s q txn all).1.waits y = none := by
  unfold goneS
  split
  · exact passN_shrink _ _ _ hok.wkeys h
  · split
    · exact passN_shrink _ _ _ hok.wkeys h
    · exact h
theorem goneL_keep {B : Nat} {txn : Int} {all : Bool} {s : List UInt8} : ∀ (l : List (List UInt8)) (T : Tb), okT T B → s ∉ l → aGet (goneL txn all l T).1.names s = aGet T.names s ∧ ∀ y, aGet T.waits y = none → aGet (goneL txn all l T).1.waits y = none
  | [], T, _, _ => ⟨rfl, fun y h => h⟩
  | s' :: l, T, hok, hn => by
    rw [List.mem_cons, not_or] at hn
    cases hq : aGet T.names s' with
    | none =>
      have e : goneL txn all (s' :: l) T = goneL txn all l T := by conv => lhs; unfold goneL; rw [hq]
      rw [e]
      exact goneL_keep l T hok hn.2
    | some q =>
      rw [goneL_cons hq]
      obtain ⟨h1, -, h3⟩ := goneS_ok txn all hok hq
      obtain ⟨h4, h5⟩ := goneL_keep l _ h1 hn.2
      exact ⟨h4.trans (h3 s hn.1), fun y hy => h5 y (goneS_shrink hok hy)⟩
theorem goneL_end {S : Int → Prop} {B : Nat} {txn : Int} {all : Bool} : ∀ (l : List (List UInt8)) (T : Tb), EndX S l txn all T → okT T B → l.Nodup → EndX S [] txn all (goneL txn all l T).1 ∧ ∀ g ∈ (goneL txn all l T).2, GotX S (goneL txn all l T).1 g
  | [], T, h, _, _ => ⟨h, fun g hg => (by cases hg)⟩
  | s :: l, T, h, hok, hn => by
    rw [List.nodup_cons] at hn
    cases hq : aGet T.names s with
    | none =>
      have e : goneL txn all (s :: l) T = goneL txn all l T := by conv => lhs; unfold goneL; rw [hq]
      rw [e]
      have hne : ∀ s' q', aGet T.names s' = some q' → s' ≠ s := fun s' q' h' he => by rw [he, hq] at h'; cases h'
      have hmem : ∀ s' q', aGet T.names s' = some q' → (s' ∈ s :: l ↔ s' ∈ l) := fun s' q' h' => by simp [hne s' q' h']
      have hv : ∀ s' q' n, aGet T.names s' = some q' → virt (s :: l) txn s' n = virt l txn s' n := fun s' q' n h' => by unfold virt; simp only [hmem s' q' h']
      refine goneL_end l T ⟨⟨fun s' q' h' => by rw [← hv s' q' _ h']; exact h.good.nm s' q' h', fun x w hx => ?_, h.good.live⟩, h.w, fun s' q' h' y hy => by rw [← hmem s' q' h']; exact h.h s' q' h' y hy, fun s' q' h' => by rw [← hmem s' q' h']; exact h.st s' q' h'⟩ hok hn.2
      obtain ⟨q', h1, h2⟩ := h.good.conv x w hx
      exact ⟨q', h1, by rw [← hv _ q' _ h1]; exact h2⟩
    | some q =>
      rw [goneL_cons hq]
      obtain ⟨e1, e2⟩ := goneS_end h hok hn.1 hq
      have hok1 := (goneS_ok txn all hok hq).1
      obtain ⟨e3, e4⟩ := goneL_end l _ e1 hok1 hn.2
      refine ⟨e3, fun g hg => ?_⟩
      rcases List.mem_append.1 hg with hg | hg
      · obtain ⟨⟨a1, a2, a3⟩, a4⟩ := e2 g hg
        obtain ⟨k1, k2⟩ := goneL_keep (txn := txn) (all := all) (s := s) l _ hok1 hn.1
        refine ⟨a1, k2 _ a2, ?_⟩
        rw [a4] at a3 ⊢
        unfold hasT at a3 ⊢
        rw [k1]; exact a3
      · exact e4 g hg
def Stuck (T : Tb) : Prop := ∀ s q, aGet T.names s = some q → StuckN T.waits q.2
theorem goneT_end {T : Tb} {B : Nat} (h : Good T) (hok : okT T B) (hst : Stuck T) (txn : Int) (all : Bool) (S : Int → Prop) (h1 : ∀ y wy, aGet T.waits y = some wy → y ≠ txn → S y) (h2 : ∀ s q, aGet T.names s = some q → ∀ y, (aGet q.2.held y).isSome = true → S y ∨ (all = true ∧ y = txn)) :
    EndX S [] txn all (goneT T txn all).1 ∧ ∀ g ∈ (goneT T txn all).2, GotX S (goneT T txn all).1 g := by
  have hsl : ∀ s q, aGet T.names s = some q → s ∈ sortS (T.names.map (·.1)) := fun s q hq => (sortS_perm _).mem_iff.2 (aGet_key hq)
  refine goneL_end (B := B) _ ⟨T.names, aDel T.waits txn⟩ ⟨⟨fun s q hq => ?_, fun x w hx => ?_, h.live⟩, fun y wy hy => ?_, fun s q hq y hy => ?_, fun s q hq => ?_⟩ ⟨hok.keys, hok.wkeys.del, hok.len, hok.short, hok.nm⟩ ((sortS_perm _).nodup_iff.2 hok.keys)
  · have hN := h.nm s q hq
    rw [virt_nil] at hN
    unfold virt
    rw [if_pos (hsl s q hq)]
    refine ⟨hN.held1, hN.bes, fun y hy => ?_, by rw [rowsN_leave]; exact outN_nodup hN.nodup _, fun y hy => hN.turns y (mem_outN.1 hy).1, fun y hy => hN.row y (mem_outN.1 hy).1⟩
    rw [rowsN_leave, mem_outN] at hy
    obtain ⟨w, e1, e2, e3⟩ := hN.rows y hy.1
    exact ⟨w, by show aGet (aDel T.waits txn) y = some w; rw [aGet_aDel hok.wkeys, if_neg hy.2]; exact e1, e2, e3⟩
  · have hx : aGet (aDel T.waits txn) x = some w := hx
    rw [aGet_aDel hok.wkeys] at hx
    split at hx
    · cases hx
    · rename_i hne
      obtain ⟨q, h1, h2⟩ := h.conv x w hx
      rw [virt_nil] at h2
      refine ⟨q, h1, ?_⟩
      unfold virt
      rw [if_pos (hsl _ q h1), rowsN_leave, mem_outN]
      exact ⟨h2, hne⟩
  · have hy : aGet (aDel T.waits txn) y = some wy := hy
    rw [aGet_aDel hok.wkeys] at hy
    split at hy
    · cases hy
    · rename_i hne
      exact h1 y wy hy hne
  · exact (h2 s q hq y hy).imp id fun ⟨a, b⟩ => ⟨a, b, hsl s q hq⟩
  · by_cases hm : txn ∈ rowsN q.2
    · exact .inr ⟨hsl s q hq, .inl hm⟩
    · refine .inl ((hst s q hq).ws fun hx => ?_)
      show aGet (aDel T.waits txn) (firstN q.2) = _
      rw [aGet_aDel hok.wkeys, if_neg]
      exact fun he => hm (he ▸ List.mem_append.2 (firstN_mem hx))
theorem EndX.stuck {S : Int → Prop} {txn : Int} {all : Bool} {T : Tb} (h : EndX S [] txn all T) : Stuck T := fun s q hq => (h.st s q hq).elim id fun ⟨h1, _⟩ => (by cases h1)
theorem EndX.txk {S : Int → Prop} {txn : Int} {all : Bool} {T : Tb} (h : EndX S [] txn all T) (hk : Keys1 T.names) {y : Int} (hy : TxK T y) : S y := by
  rcases hy with hy | ⟨p, hp, hy⟩
  · obtain ⟨w, hw⟩ := key_get hy
    exact h.w y w hw
  · exact (h.h p.1 p.2 (mem_names hk hp) y (aGet_keys.2 hy)).elim id fun ⟨_, _, h1⟩ => (by cases h1)
theorem txk_waits {T : Tb} {y : Int} {wy : Wt} (h : aGet T.waits y = some wy) : TxK T y := .inl (aGet_key h)
theorem txk_held {T : Tb} {s : List UInt8} {q : Nat × Nm} {y : Int} (h : aGet T.names s = some q) (hy : (aGet q.2.held y).isSome = true) : TxK T y := .inr ⟨(s, q), aGet_mem h, aGet_keys.1 hy⟩
/-- who frees, goes wholly -/
theorem free_end {T : Tb} {B : Nat} (h : Fine T B) (hst : Stuck T) (txn : Int) :
    Fine (goneT T txn true).1 B ∧ Stuck (goneT T txn true).1 ∧ (∀ y, TxK (goneT T txn true).1 y → TxK T y ∧ y ≠ txn) ∧ ∀ g ∈ (goneT T txn true).2, g.1 ≠ txn ∧ aGet (goneT T txn true).1.waits g.1 = none ∧ (hasT (goneT T txn true).1 g.1 g.2.name).isSome = true := by
  obtain ⟨e1, e2⟩ := goneT_end h.good h.ok hst txn true (fun y => TxK T y ∧ y ≠ txn) (fun y wy hy hne => ⟨txk_waits hy, hne⟩) fun s q hq y hy => by
    by_cases he : y = txn
    · exact .inr ⟨rfl, he⟩
    · exact .inl ⟨txk_held hq hy, he⟩
  have hf : Fine (goneT T txn true).1 B := ⟨goneT_ok txn true h.ok, goneT_sz txn true h.sz h.ok, goneT_good h.good h.ok txn true⟩
  exact ⟨hf, e1.stuck, fun y hy => e1.txk hf.ok.keys hy, fun g hg => ⟨(e2 g hg).1.2, (e2 g hg).2⟩⟩
theorem gone_txk {T : Tb} {B : Nat} (h : Good T) (hok : okT T B) (hst : Stuck T) (txn : Int) (all : Bool) : Stuck (goneT T txn all).1 ∧ ∀ y, TxK (goneT T txn all).1 y → TxK T y := by
  obtain ⟨e1, e2⟩ := goneT_end h hok hst txn all (fun y => TxK T y) (fun y wy hy hne => txk_waits hy) fun s q hq y hy => .inl (txk_held hq hy)
  exact ⟨e1.stuck, fun y hy => e1.txk (goneT_ok txn all hok).keys hy⟩
end Go.Proofs.YtakifgecgmdjcaaGreat

/- Locks: rings where all wait. -/
namespace Go.Proofs.YtakifgecgmdjcaaGreat
open Go Xf Go.RowKit
set_option linter.unusedVariables false
set_option linter.unusedSimpArgs false
set_option maxRecDepth 100000

theorem bes_less {i j k : Nat} (hi : i < 6) (hj : j < 6) (hk : k < 6) (h : bes (joi i j) k = true) : bes i k = true := by
  have := all3 (p := fun i j k => !bes (joi i j) k || bes i k) (by decide +kernel) hi hj hk
  rw [h] at this
  simpa using this
theorem goesB_of {n : Nm} {x m : Int} (hk : Keys1 n.held) (h : ∀ y my, aGet n.held y = some my → y ≠ x → bes (sureN my) (sureN m) = true) : goesB n x m = true := by
  unfold goesB
  rw [List.all_eq_true]
  intro p hp
  by_cases he : p.1 = x
  · rw [decide_eq_true he]; rfl
  · rw [decide_eq_false he, h p.1 p.2 (aGet_of_mem hk hp) he]; rfl
theorem askT_stuck {T : Tb} {B : Nat} (h : Good T) (hok : okT T B) (hst : Stuck T) (new : Nat) (txn : Int) (v : Wt) : Stuck (askT T new txn v).1 := by
  unfold askT
  split
  rotate_left
  · exact hst
  split
  · exact hst
  rename_i hnw
  have hnw : aGet T.waits txn = none := by
    cases hh : aGet T.waits txn with
    | none => rfl
    | some x => rw [hh] at hnw; simp at hnw
  show Stuck (askAt T ((aGet T.names v.name).getD (new, noNm)) txn v).1
  have hq : GoodN T.waits v.name ((aGet T.names v.name).getD (new, noNm)).2 ∧ StuckN T.waits ((aGet T.names v.name).getD (new, noNm)).2 ∧ Keys1 ((aGet T.names v.name).getD (new, noNm)).2.held := by
    cases hg : aGet T.names v.name with
    | none => exact ⟨noNm_good _ _, fun h => absurd rfl h, List.nodup_nil⟩
    | some q => exact ⟨h.nm' hg, hst _ _ hg, (hok.nm _ _ hg).2.2⟩
  generalize (aGet T.names v.name).getD (new, noNm) = q at hq
  obtain ⟨hN, hS, hK⟩ := hq
  have hfx : firstN q.2 ≠ 0 → firstN q.2 ≠ txn ∧ firstN q.2 ∈ rowsN q.2 := fun hx => by
    have hm : firstN q.2 ∈ rowsN q.2 := List.mem_append.2 (firstN_mem hx)
    refine ⟨fun he => ?_, hm⟩
    obtain ⟨w, e1, -⟩ := hN.rows _ hm
    rw [he, hnw] at e1; cases e1
  unfold askAt
  split
  · intro s q' h'
    rw [putN, aGet_aSet] at h'
    split at h'
    · injection h' with h'; subst h'; exact hS
    · exact hst s q' h'
  · split
    · rename_i hg
      unfold getsB at hg
      rw [Bool.and_eq_true] at hg
      intro s q' h'
      rw [putN, aGet_aSet] at h'
      split at h'
      rotate_left
      · exact hst s q' h'
      injection h' with h'; subst h'
      intro hx
      have hx : firstN q.2 ≠ 0 := hx
      obtain ⟨hne, hm⟩ := hfx hx
      have hold := hS hx
      have hf : firstN (giveN q.2 txn v.mode) = firstN q.2 := rfl
      show goesB (giveN q.2 txn v.mode) (firstN q.2) (wouldN (giveN q.2 txn v.mode) (firstN q.2) ((aGet T.waits (firstN q.2)).getD ⟨[], 0⟩).mode) = false
      have hwo : ∀ m, wouldN (giveN q.2 txn v.mode) (firstN q.2) m = wouldN q.2 (firstN q.2) m := fun m => by
        unfold wouldN giveN
        rw [aGet_aSet, if_neg hne]
      rw [hwo]
      cases hgo : goesB (giveN q.2 txn v.mode) (firstN q.2) (wouldN q.2 (firstN q.2) ((aGet T.waits (firstN q.2)).getD ⟨[], 0⟩).mode) with
      | false => rfl
      | true =>
        rw [← hold]
        refine (goesB_of hK fun y my hy hyx => ?_).symm
        by_cases he : y = txn
        · subst he
          have := goesB_mem hgo (y := y) (my := wouldN q.2 y v.mode) (by unfold giveN; rw [aGet_aSet, if_pos rfl]) hyx
          unfold wouldN at this
          rw [sureN_of (joi_lt (sureN_lt _) (sureN_lt _)), hy, Option.getD_some] at this
          exact bes_less (sureN_lt _) (sureN_lt _) (sureN_lt _) this
        · exact goesB_mem hgo (by unfold giveN; rw [aGet_aSet, if_neg he]; exact hy) hyx
    · rename_i hg
      have hg : getsB q.2 txn v.mode = false := by simpa using hg
      intro s q' h'
      have h' : aGet (aSet T.names v.name (q.1, queueN q.2 txn)) s = some q' := h'
      show StuckN (aSet T.waits txn v) q'.2
      rw [aGet_aSet] at h'
      split at h'
      rotate_left
      · refine (hst s q' h').ws fun hx => ?_
        rw [aGet_aSet, if_neg]
        intro he
        obtain ⟨w, e1, -⟩ := (h.nm' h').rows _ (List.mem_append.2 (firstN_mem hx))
        rw [he, hnw] at e1; cases e1
      injection h' with h'; subst h'
      show StuckN (aSet T.waits txn v) (queueN q.2 txn)
      have hqh : (queueN q.2 txn).held = q.2.held := by unfold queueN; split <;> rfl
      have hgo : ∀ x m, goesB (queueN q.2 txn) x m = goesB q.2 x m := fun x m => by unfold goesB; rw [hqh]
      have hwo : ∀ x m, wouldN (queueN q.2 txn) x m = wouldN q.2 x m := fun x m => by unfold wouldN; rw [hqh]
      have hfirst : (firstN (queueN q.2 txn) = firstN q.2 ∧ firstN q.2 ≠ 0) ∨ (firstN (queueN q.2 txn) = txn ∧ goesB q.2 txn (wouldN q.2 txn v.mode) = false) := by
        unfold queueN
        unfold getsB at hg
        by_cases his : (aGet q.2.held txn).isSome = true
        · rw [if_pos his]
          rw [his, Bool.true_or, Bool.and_true] at hg
          unfold firstN
          cases ht : q.2.turns with
          | nil => exact .inr ⟨rfl, hg⟩
          | cons x l =>
            refine .inl ⟨rfl, ?_⟩
            obtain ⟨w, -, -, e3, -⟩ := hN.rows x (by unfold rowsN; rw [ht]; simp)
            show x ≠ 0
            omega
        · rw [if_neg his]
          have his : (aGet q.2.held txn).isSome = false := by simpa using his
          rw [his, Bool.false_or] at hg
          unfold firstN
          cases ht : q.2.turns with
          | cons x l =>
            refine .inl ⟨rfl, ?_⟩
            obtain ⟨w, -, -, e3, -⟩ := hN.rows x (by unfold rowsN; rw [ht]; simp)
            show x ≠ 0
            omega
          | nil =>
            cases hr : q.2.row with
            | cons x l =>
              refine .inl ⟨rfl, ?_⟩
              obtain ⟨w, -, -, e3, -⟩ := hN.rows x (by unfold rowsN; rw [hr]; simp)
              show x ≠ 0
              omega
            | nil =>
              refine .inr ⟨rfl, ?_⟩
              rw [ht, hr] at hg
              simpa using hg
      intro hx
      rw [hgo, hwo]
      rcases hfirst with ⟨h1, h2⟩ | ⟨h1, h2⟩
      · rw [h1, aGet_aSet, if_neg (hfx h2).1]
        exact hS h2
      · rw [h1, aGet_aSet, if_pos rfl]
        exact h2
theorem askT_txk {T : Tb} (new : Nat) (txn : Int) (v : Wt) {y : Int} (hk : Keys1 (askT T new txn v).1.names) (h : TxK (askT T new txn v).1 y) : TxK T y ∨ y = txn := by
  have key : (∀ w, aGet (askT T new txn v).1.waits y = some w → TxK T y ∨ y = txn) ∧ ∀ s q, aGet (askT T new txn v).1.names s = some q → (aGet q.2.held y).isSome = true → TxK T y ∨ y = txn := by
    have old : (∀ w, aGet T.waits y = some w → TxK T y ∨ y = txn) ∧ ∀ s q, aGet T.names s = some q → (aGet q.2.held y).isSome = true → TxK T y ∨ y = txn := ⟨fun w hw => .inl (txk_waits hw), fun s q hq hy => .inl (txk_held hq hy)⟩
    have hqq : (aGet ((aGet T.names v.name).getD (new, noNm)).2.held y).isSome = true → TxK T y ∨ y = txn := by
      cases hg : aGet T.names v.name with
      | none => intro h; cases h
      | some q => exact fun hy => .inl (txk_held hg hy)
    unfold askT
    split
    rotate_left
    · exact old
    split
    · exact old
    show (∀ w, aGet (askAt T ((aGet T.names v.name).getD (new, noNm)) txn v).1.waits y = some w → _) ∧ ∀ s q, aGet (askAt T ((aGet T.names v.name).getD (new, noNm)) txn v).1.names s = some q → _
    generalize (aGet T.names v.name).getD (new, noNm) = q at hqq
    have put : ∀ n : Nm, ((aGet n.held y).isSome = true → TxK T y ∨ y = txn) → ∀ s q', aGet (aSet T.names v.name (q.1, n)) s = some q' → (aGet q'.2.held y).isSome = true → TxK T y ∨ y = txn := fun n hn s q' h' hy => by
      rw [aGet_aSet] at h'
      split at h'
      · injection h' with h'; subst h'; exact hn hy
      · exact old.2 s q' h' hy
    unfold askAt
    split
    · exact ⟨old.1, put q.2 hqq⟩
    · split
      · refine ⟨old.1, put (giveN q.2 txn v.mode) fun hy => ?_⟩
        rcases isSome_aSet.1 hy with h1 | h1
        · exact .inr h1
        · exact hqq h1
      · refine ⟨fun w hw => ?_, put (queueN q.2 txn) fun hy => hqq ?_⟩
        · have hw : aGet (aSet T.waits txn v) y = some w := hw
          rw [aGet_aSet] at hw
          split at hw
          · rename_i he; exact .inr he
          · exact old.1 w hw
        · have hqh : (queueN q.2 txn).held = q.2.held := by unfold queueN; split <;> rfl
          rw [← hqh]; exact hy
  rcases h with hy | ⟨p, hp, hy⟩
  · obtain ⟨w, hw⟩ := key_get hy
    exact key.1 w hw
  · exact key.2 p.1 p.2 (mem_names hk hp) (aGet_keys.2 hy)
theorem Reach.end_ {l : List LOp} {T : Tb} (h : Reach l T) (hl : ∀ o ∈ l, okO o) : Stuck T ∧ ∃ M : List Int, M.length ≤ l.length ∧ ∀ x, TxK T x → x ∈ M := by
  induction h with
  | nil => exact ⟨fun s q h => (by cases h), [], Nat.le_refl _, fun x hx => by
      rcases hx with hx | ⟨p, hp, _⟩
      · cases hx
      · cases hp⟩
  | @snoc l T new o hr ih =>
    have hl' : ∀ o ∈ l, okO o := fun o ho => hl o (List.mem_append_left _ ho)
    obtain ⟨hst, M, hM, hMx⟩ := ih hl'
    have hg := hr.good hl'
    suffices hh : Stuck (stepS T new o) ∧ ∀ x, TxK (stepS T new o) x → TxK T x ∨ x = o.txn by
      refine ⟨hh.1, M ++ [o.txn], by rw [List.length_append, List.length_append]; simpa using hM, fun x hx => ?_⟩
      rw [List.mem_append, List.mem_singleton]
      exact (hh.2 x hx).imp (hMx x) id
    unfold stepS
    split
    rotate_left
    · exact ⟨hst, fun x hx => .inl hx⟩
    unfold stepT
    split
    · exact ⟨askT_stuck hg hr.ok hst _ _ _, fun x hx => askT_txk _ _ _ (askT_ok new _ _ hr.ok).keys hx⟩
    · split
      · obtain ⟨a, b⟩ := gone_txk hg hr.ok hst o.txn true
        exact ⟨a, fun x hx => .inl (b x hx)⟩
      · split
        · obtain ⟨a, b⟩ := gone_txk hg hr.ok hst o.txn false
          exact ⟨a, fun x hx => .inl (b x hx)⟩
        · exact ⟨hst, fun x hx => .inl hx⟩
/-- who waits, waits for somebody -/
theorem wait_edge {T : Tb} {B : Nat} (h : Fine T B) (hst : Stuck T) {x : Int} {w : Wt} (hx : aGet T.waits x = some w) : ∃ y, EdgeT T (x, y) ∧ TxK T y := by
  obtain ⟨q, h1, h2, h3⟩ := h.good.wait hx
  have hN := h.good.nm' h1
  have hx0 : firstN q.2 ≠ 0 := fun h0 => by
    unfold firstN at h0
    unfold rowsN at h2
    cases ht : q.2.turns with
    | cons z l =>
      rw [ht] at h0
      obtain ⟨w, -, -, e3, -⟩ := hN.rows z (by unfold rowsN; rw [ht]; simp)
      have h0 : z = 0 := h0
      omega
    | nil =>
      cases hr : q.2.row with
      | cons z l =>
        rw [ht, hr] at h0
        obtain ⟨w, -, -, e3, -⟩ := hN.rows z (by unfold rowsN; rw [hr]; simp)
        have h0 : z = 0 := h0
        omega
      | nil => rw [ht, hr] at h2; cases h2
  obtain ⟨l, hl⟩ := firstN_rows hx0
  by_cases he : x = firstN q.2
  · have hs := hst _ _ h1 hx0
    rw [← he] at hs
    have : ∃ p ∈ q.2.held, heldE q.2 (wouldN q.2 x (wantOf T.waits x)) x p = true := by
      rcases Classical.em (∃ p ∈ q.2.held, heldE q.2 (wouldN q.2 x (wantOf T.waits x)) x p = true) with h | h
      · exact h
      · exfalso
        have hs : goesB q.2 x (wouldN q.2 x (wantOf T.waits x)) = false := hs
        have ht : goesB q.2 x (wouldN q.2 x (wantOf T.waits x)) = true := by
          unfold goesB
          rw [List.all_eq_true]
          intro p hp
          cases hh : heldE q.2 (wouldN q.2 x (wantOf T.waits x)) x p with
          | true => exact absurd ⟨p, hp, hh⟩ h
          | false =>
            unfold heldE at hh
            by_cases hpx : p.1 = x
            · rw [decide_eq_true hpx]; rfl
            · rw [decide_eq_true hpx, Bool.true_and] at hh
              have : bes (sureN p.2) (sureN (wouldN q.2 x (wantOf T.waits x))) = true := by simpa using hh
              rw [this, Bool.or_true]
        rw [ht] at hs; cases hs
    obtain ⟨p, hp, hh⟩ := this
    exact ⟨p.1, ⟨(w.name, q), aGet_mem h1, 0, by rw [hl, ← he]; rfl, .inl ⟨p, hp, rfl, hh⟩⟩, .inr ⟨(w.name, q), aGet_mem h1, List.mem_map_of_mem (f := (·.1)) hp⟩⟩
  · obtain ⟨i, hi⟩ := List.getElem?_of_mem h2
    have hi0 : i ≠ 0 := fun h0 => by
      subst h0
      rw [hl] at hi
      injection hi with hi
      exact he hi.symm
    obtain ⟨w', e1, -⟩ := hN.rows (firstN q.2) (by rw [hl]; exact List.mem_cons_self ..)
    refine ⟨firstN q.2, ⟨(w.name, q), aGet_mem h1, i, hi, .inr ?_⟩, txk_waits e1⟩
    show firstN q.2 ∈ (rowsN q.2).take i
    rw [hl]
    obtain ⟨j, rfl⟩ : ∃ j, i = j + 1 := ⟨i - 1, by omega⟩
    rw [List.take_succ_cons]
    exact List.mem_cons_self ..
theorem edge_txk {T : Tb} {B : Nat} (h : Fine T B) {e : Ed} (he : EdgeT T e) : TxK T e.1 := by
  obtain ⟨p, hp, i, hi, -⟩ := he
  obtain ⟨w, e1, -⟩ := (h.good.nm' (mem_names h.ok.keys hp)).rows _ (List.mem_of_getElem? hi)
  exact txk_waits e1
theorem max_exists {R : Int → Int → Prop} (htr : ∀ a b c, R a b → R b c → R a c) : ∀ (L : List Int), L ≠ [] → (∀ x ∈ L, ¬ R x x) → ∃ x ∈ L, ∀ y ∈ L, ¬ R x y
  | [], h, _ => absurd rfl h
  | a :: t, _, hir => by
    cases t with
    | nil =>
      refine ⟨a, List.mem_cons_self .., fun y hy => ?_⟩
      rw [List.mem_singleton] at hy
      subst hy
      exact hir _ (List.mem_cons_self ..)
    | cons b t =>
      obtain ⟨x, hx, hm⟩ := max_exists htr (b :: t) (by simp) fun x hx => hir x (List.mem_cons_of_mem _ hx)
      rcases Classical.em (R x a) with h | h
      · refine ⟨a, List.mem_cons_self .., fun y hy hr => ?_⟩
        rcases List.mem_cons.1 hy with rfl | hy
        · exact hir _ (List.mem_cons_self ..) hr
        · exact hm y hy (htr _ _ _ h hr)
      · refine ⟨x, List.mem_cons_of_mem _ hx, fun y hy hr => ?_⟩
        rcases List.mem_cons.1 hy with rfl | hy
        · exact h hr
        · exact hm y hy hr
theorem ring_exists {E : List Ed} {L : List Int} (hne : L ≠ []) (h : ∀ x ∈ L, ∃ y ∈ L, (x, y) ∈ E) : ∃ x ∈ L, Path E x x := by
  rcases Classical.em (∃ x ∈ L, Path E x x) with h1 | h1
  · exact h1
  · obtain ⟨x, hx, hm⟩ := max_exists (R := Path E) (fun a b c => Path.trans) L hne fun x hx hp => h1 ⟨x, hx, hp⟩
    obtain ⟨y, hy, he⟩ := h x hx
    exact absurd (.one he) (hm y hy)
end Go.Proofs.YtakifgecgmdjcaaGreat

/- Locks: LockEnds, its pieces. -/
namespace Go.Proofs.YtakifgecgmdjcaaGreat
open Go Xf Go.RowKit
set_option linter.unusedVariables false
set_option linter.unusedSimpArgs false
set_option maxRecDepth 100000

theorem goneL_len {B : Nat} (txn : Int) (all : Bool) : ∀ (l : List (List UInt8)) (T : Tb), okT T B → (goneL txn all l T).2.length ≤ l.length * (2 * B)
  | [], T, h => Nat.zero_le _
  | s :: l, T, h => by
    cases hq : aGet T.names s with
    | none =>
      have e : goneL txn all (s :: l) T = goneL txn all l T := by conv => lhs; unfold goneL; rw [hq]
      rw [e, List.length_cons, Nat.succ_mul]
      have := goneL_len txn all l T h
      omega
    | some q =>
      rw [goneL_cons hq]
      obtain ⟨h1, h2, -⟩ := goneS_ok txn all h hq
      have := goneL_len txn all l _ h1
      show ((goneS T s q txn all).2 ++ (goneL txn all l (goneS T s q txn all).1).2).length ≤ _
      rw [List.length_append, List.length_cons, Nat.succ_mul]
      omega
theorem goneT_len {T : Tb} {B : Nat} (txn : Int) (all : Bool) (h : okT T B) : (goneT T txn all).2.length ≤ B * (2 * B) := by
  have h1 := goneL_len (B := B) txn all (sortS (T.names.map (·.1))) ⟨T.names, aDel T.waits txn⟩ ⟨h.keys, h.wkeys.del, h.len, h.short, h.nm⟩
  have h2 : (sortS (T.names.map (·.1))).length ≤ B := by rw [(sortS_perm _).length_eq, List.length_map]; exact h.len
  exact Nat.le_trans h1 (Nat.mul_le_mul_right _ h2)
section
variable {w : World}
theorem Has_spec {v : Value} {l : List Int} (h : Rd w 1 v l.length (intsV .i64 l)) (hl : l.length ≤ 1000000000) (x : Int) :
    CallsR Tryz.prog 20 #[v, .int .i64 x] w fun u w' => u = .bool (decide (x ∈ l)) ∧ w' = w := by
  apply flotillaref12_Has_sound
  unfold flotillaref12_Has_x flotillaref12_Has_k1
  obtain ⟨A1, c1, rfl, -⟩ := id h
  refine st_loop (fun vs w' => ∃ i : Nat, i ≤ l.length ∧ vs.getD 1 undef = .int .i64 i ∧ w' = w ∧ x ∉ l.take i) (fun vs _ => l.length - (intOf (vs.getD 1 undef)).toNat) ⟨0, Nat.zero_le _, rfl, rfl, by simp⟩ ?_
  rintro dv vs w1 - ⟨i, hi, e1, rfl, hno⟩
  simp (disch := first | assumption | omega) only [e1, PX, BX]
  refine ⟨fun hlt => ?_, fun hge => ?_⟩
  rotate_left
  · obtain rfl : i = l.length := by omega
    rw [List.take_length] at hno
    rw [decide_eq_false hno]
    exact ⟨rfl, trivial⟩
  have hi' : i < l.length := by omega
  obtain ⟨a1, c1', q1, hc⟩ := int_at h hi'
  injection q1 with q1; subst q1
  simp (disch := first | assumption | omega) only [PX, BX, LX, Nat.mul_one]
  refine ⟨fun he => ?_, fun he => ?_⟩
  · rw [decide_eq_true (by rw [← he]; exact List.getElem_mem hi')]
    exact ⟨rfl, trivial⟩
  · simp (disch := omega) only [PX, w64]
    refine ⟨⟨i + 1, by omega, rfl, trivial, fun hm => ?_⟩, ?_⟩
    · rw [List.take_succ_eq_append_getElem hi'] at hm
      rcases List.mem_append.1 hm with hm | hm
      · exact hno hm
      · rw [List.mem_singleton] at hm; exact he hm.symm
    · simp only [List.getD_cons_succ, List.getD_cons_zero, intOf]; omega
theorem gr_at {v : Value} {l : List Gr} {i : Nat} (hr : RdS w grV 3 v l) (hi : i < l.length) : ∃ a c, v = .slice (some a) l.length c ∧ ∀ w', Upd w w' [] → w'.cell? (a.add (i * 3 + 0)) = some (.int .i64 l[i].1) ∧ w'.cell? (a.add (i * 3 + 1)) = some (strV l[i].2.name) ∧ w'.cell? (a.add (i * 3 + 2)) = some (.int .i64 l[i].2.mode) := by
  obtain ⟨A, c, rfl, hm, hrd⟩ := hr
  obtain ⟨a, rfl, hx⟩ := Rd.row (f := grV) (k := 3) (fun _ => rfl) (by omega) hrd hi
  have e : ((i : Nat) : Int).toNat = i := by omega
  rw [e] at hx
  exact ⟨a, c, rfl, fun w' hU => ⟨hx w' hU 0 _ rfl, hx w' hU 1 _ rfl, hx w' hU 2 _ rfl⟩⟩
variable {W w' : World} {ks : List Nat} {F : List (Nat × Obj)} {T : Tb} {g : Nat}
theorem TbAt.rdGr {l : List Gr} {v : Value} {hl : List (Nat × Obj)} (hr : RowH 53 3 v l.length (grsV l) hl) (h : TbAt W ks F T g w) (hs : ∀ p ∈ hl, p ∈ F) (hlen : l.length ≤ 1000000000) : RdS w grV 3 v l := by
  obtain ⟨A, c, rfl⟩ := RowH.sl' hr
  exact ⟨A, c, rfl, Nat.le_trans hlen (by decide), hr.rd (F := []) ⟨by rw [List.append_nil]; rcases hr.2 with ⟨_, _, rfl⟩ | ⟨g', _, _, _, rfl, _⟩ <;> simp, fun p hp => h.owns.2 p (hs p (by simpa using hp))⟩⟩
theorem Path.first {E : List Ed} {a b : Int} (h : Path E a b) : ∃ c, (a, c) ∈ E := by
  induction h with
  | one h => exact ⟨_, h⟩
  | more _ _ ih => exact ih
theorem Ends_k5 {t : Nat} {who : Int} {v27 u6 u7 u2 : Value} {vs : List Value} {again : List Value → World → Prop} {Q : Value → World → Prop} (hT : TbAt W [] F T g w) (hfine : Fine T 60) (hno : ¬ TxK T who) (ht : vs.getD 4 undef = .int .i64 (t : Nat)) (ht6 : t ≤ 60)
    (hk : ∀ w', TbAt W [] F T g w' → again [v27, u6, u7, u2, .int .i64 ((t + 1 : Nat) : Int)] w') : flotillalaw13_LockEnds_k5 (std Tryz.prog) (.pointer (some ⟨g, 0, none⟩)) vs again v27 u6 u7 (.int .i64 who) u2 w Q := by
  unfold flotillalaw13_LockEnds_k5
  refine st_call (Txns_spec hT hfine (by omega)) ?_
  rintro v1 w1 ⟨L, ⟨hL, hrL, hT1, -⟩, hlt, hmem, hLl⟩
  refine st_call (Has_spec (hT1.rdI hrL fun p hp => List.mem_append_left _ hp) (by omega) who) ?_
  rintro _ w2 ⟨rfl, rfl⟩
  rw [decide_eq_false (fun h => hno ((hmem who).1 h))]
  simp (disch := first | assumption | omega) only [ht, PX, BX, w64]
  exact hk w2 (hT1.weak (List.sublist_append_right _ _))
theorem Ends_k4 {t : Nat} {who : Int} {v27 u6 u7 u2 : Value} {vs : List Value} {again : List Value → World → Prop} {Q : Value → World → Prop} (hT : TbAt W [] F T g w) (hfine : Fine T 60) (hst : Stuck T) (ht : vs.getD 4 undef = .int .i64 (t : Nat)) (ht6 : t ≤ 60)
    (hk : ∀ T' w' u2', Fine T' 60 → Stuck T' → (∀ y, TxK T' y → TxK T y ∧ y ≠ who) → TbAt W [] F T' g w' → again [v27, u6, u7, u2', .int .i64 ((t + 1 : Nat) : Int)] w') : flotillalaw13_LockEnds_k4 (std Tryz.prog) (.pointer (some ⟨g, 0, none⟩)) vs again v27 u6 u7 u2 (.int .i64 who) w Q := by
  unfold flotillalaw13_LockEnds_k4
  refine st_call (Free_spec hT hfine.ok (by omega) who) ?_
  obtain ⟨f1, f2, f3, f4⟩ := free_end hfine hst who
  have hglen : (goneT T who true).2.length ≤ 1000000 := Nat.le_trans (goneT_len who true hfine.ok) (by decide)
  generalize goneT T who true = r at f1 f2 f3 f4 hglen
  obtain ⟨T', gs⟩ := r
  rintro v82 w1 ⟨hl, hr, hT1, -⟩
  simp only at f1 f2 f3 f4 hr hT1 hglen
  obtain ⟨A, c, rfl⟩ := RowH.sl' hr
  refine st_loop (fun vs w' => ∃ i : Nat, i ≤ gs.length ∧ vs.getD 1 undef = .int .i64 i ∧ TbAt W [] (hl ++ F) T' g w') (fun vs _ => gs.length - (intOf (vs.getD 1 undef)).toNat) ⟨0, Nat.zero_le _, rfl, hT1⟩ ?_
  rintro dv vs2 w2 - ⟨i, hi, e1, hT2⟩
  simp (disch := first | assumption | omega) only [e1, PX, BX]
  refine ⟨fun hlti => ?_, fun hge => ?_⟩
  rotate_left
  · exact Ends_k5 (hT2.weak (List.sublist_append_right _ _)) f1 (fun h => (f3 _ h).2 rfl) ht ht6 fun w' h => hk T' w' _ f1 f2 f3 h
  have hi' : i < gs.length := by omega
  obtain ⟨b1, b2, b3⟩ := f4 gs[i] (List.getElem_mem hi')
  obtain ⟨a, c', q1, hc⟩ := gr_at (hT2.rdGr hr (fun p hp => List.mem_append_left _ hp) (by omega)) hi'
  injection q1 with q1; subst q1
  have k0 := (hc w2 (Upd.refl w2 [])).1
  simp (disch := first | assumption | omega) only [PX, LX, add_add']
  refine st_call (Waits_spec hT2 gs[i].1) ?_
  rintro _ w3 ⟨rfl, hT3⟩
  simp (disch := first | assumption | omega) only [PX]
  rw [b2]
  refine st_talloc ze_want hT3 ?_
  intro b9 w4 hT4 hb9
  refine st_tstoreN (vs := [strV [], .int .i64 0]) (by rw [sz31]; rfl) hT4 rfl (by simp [Value.oneCell']) (.inr hb9) ?_
  intro w5 hT5
  have hT5 := hT5.weak (List.sublist_cons_self ..)
  have hTd := hT5.upd (Upd.drew w5 [])
  obtain ⟨a', c'', q2, hc2⟩ := gr_at (hTd.rdGr hr (fun p hp => List.mem_append_left _ hp) (by omega)) hi'
  injection q2 with q2; injection q2 with q2; subst q2
  have hne : ∃ w', (fun w' => Upd w5.drew w' []) w' := ⟨_, Upd.refl _ _⟩
  refine st_draw (fun w' => Upd w5.drew w' []) (Upd.refl _ _) ?_
  have g0 : ∀ w', Upd w5.drew w' [] → w'.cell? (a.add (i * 3 + 0)) = some (.int .i64 gs[i].1) := fun w' h => (hc2 w' h).1
  have g1 : ∀ w', Upd w5.drew w' [] → w'.cell? (a.add (i * 3 + 1 + 0)) = some (strV gs[i].2.name) := fun w' h => (hc2 w' h).2.1
  simp (disch := first | exact hne | assumption | omega) only [SX, SLX, add_add', mk_inj]
  rw [bool_dec]
  refine ⟨fun h => absurd h b1, fun _ => ?_⟩
  simp only [Option.isSome_none, BX]
  refine st_call (has_spec hTd f1.ok (by omega) gs[i].1 gs[i].2.name) ?_
  rintro _ w6 ⟨rfl, hT6⟩
  rw [b3]
  have hne2 : ∃ w', (fun _ : World => True) w' := ⟨w6, trivial⟩
  refine st_keepT (fun _ => True) trivial ?_
  simp (disch := first | exact hne2 | assumption | omega) only [SX]
  simp (disch := first | assumption | omega) only [e1, PX, BX, w64, Bool.not_true]
  refine ⟨⟨i + 1, by omega, rfl, hT6⟩, ?_⟩
  simp only [List.getD_cons_succ, List.getD_cons_zero, intOf]; omega
end
end Go.Proofs.YtakifgecgmdjcaaGreat
