/- Maps: their operations, on blocks. -/
import Derived.Test.YtakifgecgmdjcaaV
import Derived.Maps.RangeRun
namespace Go.Proofs.Ytakifgecgmdjcaa
open Go Xf Go.RowKit
set_option linter.unusedVariables false
set_option linter.unusedSimpArgs false
set_option linter.unusedSectionVars false

section
variable {P : Program} {w W : World} {K : Value → World → Prop} {κ ν : Type} [DecidableEq κ]

/-- where a key stands, and what stands by it -/
def aFind (l : List (κ × ν)) (k : κ) (i : Nat) : Option (Nat × ν) :=
  match l with
  | [] => none
  | p :: l => if k = p.1 then some (i, p.2) else aFind l k (i + 1)
def aGet (l : List (κ × ν)) (k : κ) : Option ν := (aFind l k 0).map (·.2)
def aSet (l : List (κ × ν)) (k : κ) (v : ν) : List (κ × ν) := match aFind l k 0 with | some (j, _) => l.set j (k, v) | none => l ++ [(k, v)]
def aDel (l : List (κ × ν)) (k : κ) : List (κ × ν) := match aFind l k 0 with | some (j, _) => l.eraseIdx j | none => l
theorem aFind_some {l : List (κ × ν)} {k : κ} : ∀ {i j : Nat} {v : ν}, aFind l k i = some (j, v) → i ≤ j ∧ l[j - i]? = some (k, v) := by
  induction l with
  | nil => intro i j v h; cases h
  | cons p l ih =>
    intro i j v h
    unfold aFind at h
    split at h
    · rename_i he
      injection h with h
      injection h with h1 h2
      subst h1 h2
      exact ⟨Nat.le_refl _, by rw [Nat.sub_self, he]; rfl⟩
    · obtain ⟨h1, h2⟩ := ih h
      refine ⟨by omega, ?_⟩
      rw [show j - i = (j - (i + 1)) + 1 by omega, List.getElem?_cons_succ]
      exact h2
theorem aFind_none {l : List (κ × ν)} {k : κ} : ∀ {i : Nat}, aFind l k i = none ↔ ∀ p ∈ l, p.1 ≠ k := by
  induction l with
  | nil => intro i; simp [aFind]
  | cons p l ih =>
    intro i
    unfold aFind
    split
    · rename_i he
      simp [he]
    · rename_i he
      rw [ih]
      simp only [List.mem_cons, forall_eq_or_imp]
      exact ⟨fun h => ⟨fun hh => he hh.symm, h⟩, fun h => h.2⟩

/-- keys that the model compares at once -/
structure KeyOk (P : Program) (kt : TypeId) (ke : κ → Value) : Prop where
  und : (∃ q, P.underlying kt = some (.int q)) ∨ P.underlying kt = some .string
  same : ∀ a b d, P.underlying kt = some d → Instr.sameNow d (ke a) (ke b) = some (decide (a = b))
  bits : ∀ a, Instr.sameBits 10000 (ke a) (ke a) = true
theorem KeyOk.int {kt : TypeId} {q : IntKind} (h : P.underlying kt = some (.int q)) : KeyOk P kt (Value.int q) := by
  refine ⟨.inl ⟨q, h⟩, fun a b d hd => ?_, fun a => by simp [Instr.sameBits]⟩
  rw [h] at hd
  injection hd with hd
  subst hd
  simp only [Instr.sameNow, if_true, Option.some.injEq]
  by_cases hab : a = b
  · subst hab; simp
  · simp [hab]
theorem bytes_beq (a b : List UInt8) : ((⟨a.toArray⟩ : ByteArray) == ⟨b.toArray⟩) = decide (a = b) := by
  show (a.toArray == b.toArray) = _
  by_cases h : a = b
  · subst h; simp
  · simp [h]
theorem KeyOk.str {kt : TypeId} (h : P.underlying kt = some .string) : KeyOk P kt (fun l : List UInt8 => Value.string ⟨l.toArray⟩) := by
  refine ⟨.inr h, fun a b d hd => ?_, fun a => ?_⟩
  · rw [h] at hd
    injection hd with hd
    subst hd
    simp only [Instr.sameNow, bytes_beq]
  · simp only [Instr.sameBits, bytes_beq, decide_true]
theorem run_checkKey {kt : TypeId} {ke : κ → Value} (hk : KeyOk P kt ke) (e : Bool) (a : κ) : (Instr.checkKey e 10000 kt (ke a)).run P w = .ok () w := by
  unfold Instr.checkKey
  rw [Sem.run_bind]
  rcases hk.und with ⟨q, h⟩ | h
  · rw [run_underlying' h]; simp only [Result.andThen_ok]; rfl
  · rw [run_underlying' h]; simp only [Result.andThen_ok]; rfl
theorem findNow_eq {kt : TypeId} {ke : κ → Value} {ve : ν → Value} {d : TypeDesc} (hk : KeyOk P kt ke) (hd : P.underlying kt = some d) (k : κ) : ∀ (es : List MapEntry) (l : List (κ × ν)) (i : Nat), es.map (fun e => (e.key, e.val)) = l.map (fun p => (ke p.1, ve p.2)) →
    Instr.findNow d (ke k) es i = some ((aFind l k i).map fun p => (p.1, ve p.2))
  | [], [], i, h => rfl
  | [], p :: l, i, h => by simp at h
  | e :: es, [], i, h => by simp at h
  | e :: es, p :: l, i, h => by
    simp only [List.map_cons, List.cons.injEq, Prod.mk.injEq] at h
    obtain ⟨⟨h1, h2⟩, h3⟩ := h
    unfold Instr.findNow aFind
    rw [h1, hk.same _ _ _ hd]
    by_cases he : k = p.1
    · rw [decide_eq_true he, if_pos he, h2]; rfl
    · rw [decide_eq_false he, if_neg he]
      exact findNow_eq hk hd k es l (i + 1) h3
theorem run_findKey {kt : TypeId} {ke : κ → Value} {ve : ν → Value} (hk : KeyOk P kt ke) (k : κ) (es : List MapEntry) (l : List (κ × ν)) (h : es.map (fun e => (e.key, e.val)) = l.map (fun p => (ke p.1, ve p.2))) :
    (Instr.findKey kt (ke k) es).run P w = .ok ((aFind l k 0).map fun p => (p.1, ve p.2)) w := by
  obtain ⟨d, hd⟩ : ∃ d, P.underlying kt = some d := by
    rcases hk.und with ⟨q, h⟩ | h
    · exact ⟨_, h⟩
    · exact ⟨_, h⟩
  unfold Instr.findKey
  rw [Sem.run_bind, run_underlying' hd]
  simp only [Result.andThen_ok]
  rw [findNow_eq hk hd k es l 0 h]
  rfl
/-- a block that is a map of these -/
def MapO (ke : κ → Value) (ve : ν → Value) (l : List (κ × ν)) (o : Obj) : Prop :=
  ∃ es clock, o = .map es clock ∧ es.toList.map (fun e => (e.key, e.val)) = l.map (fun p => (ke p.1, ve p.2)) ∧ (es.toList.map (·.born)).Nodup ∧ ∀ e ∈ es.toList, e.born < clock
theorem MapO.nil (ke : κ → Value) (ve : ν → Value) : MapO ke ve [] (.map #[] 0) := ⟨#[], 0, rfl, rfl, List.nodup_nil, fun e he => by simp at he⟩
theorem run_getMap {b : Nat} {es : Array MapEntry} {clock : Nat} (h : w.heap[b]? = some (.map es clock)) : (getObj b).run P w = .ok (.map es clock) w := by simp [getObj, Sem.run, h]

theorem run_zero {et : TypeId} {z : Value} (hz : (P.info? et).bind (·.zero) = some z) : (zeroValue et).run P w = .ok z w := by
  cases hi : P.info? et with
  | none => rw [hi] at hz; cases hz
  | some i =>
    rw [hi] at hz
    have hz' : i.zero = some z := hz
    simp [zeroValue, typeInfo, program, Sem.run, hi, hz']
theorem run_lookup {t kt et : TypeId} {ke : κ → Value} {ve : ν → Value} {z : Value} {b : Nat} {o : Obj} {l : List (κ × ν)} (ht : P.underlying t = some (.map kt et)) (hk : KeyOk P kt ke) (hz : (P.info? et).bind (·.zero) = some z) (hb : w.heap[b]? = some o) (hm : MapO ke ve l o) (k : κ) (ok : Bool) :
    (sLookup t (.map (some b)) (ke k) ok).run P w = .ok (.value (if ok then .tuple #[((aGet l k).map ve).getD z, .bool (aGet l k).isSome] else ((aGet l k).map ve).getD z)) w := by
  obtain ⟨es, clock, rfl, hes, -⟩ := hm
  unfold sLookup Instr.lookup
  rw [run_sV, Sem.run_bind, run_underlying' ht]
  simp only [Result.andThen_ok, Sem.run_bind, run_getMap hb, Sem.run_pure, run_checkKey hk, run_findKey hk k es.toList l hes]
  unfold aGet
  cases hf : aFind l k 0 with
  | none =>
    simp only [Option.map_none, Option.getD_none, Option.isSome_none, Sem.run_bind, run_zero hz, Result.andThen_ok, Sem.run_pure]
  | some p =>
    simp only [Option.map_some, Option.getD_some, Option.isSome_some, Sem.run_bind, Result.andThen_ok, Sem.run_pure]
/-- a map's block is written -/
theorem Owns.putObj {h : List (Nat × Obj)} (hO : Owns w h) (i : Nat) {g : Nat} {o : Obj} (hi : h[i]? = some (g, o)) (o' : Obj) : Owns (Go.ChangeMaps.setBlock w g o') (h.set i (g, o')) := by
  refine hO.put i hi ?_ fun k hk => ?_
  · have := hO.lt (List.mem_of_getElem? hi)
    simp [Go.ChangeMaps.setBlock, this]
  · simp [Go.ChangeMaps.setBlock, Array.getElem?_setIfInBounds, Ne.symm hk]
theorem Upd.setBlock (w : World) (g : Nat) (o : Obj) : Upd w (Go.ChangeMaps.setBlock w g o) [g] := ⟨rfl, rfl, rfl, by simp [Go.ChangeMaps.setBlock], fun k hk hn => by simp [Go.ChangeMaps.setBlock, Array.getElem?_setIfInBounds, Ne.symm (show k ≠ g by simpa using hn)]⟩
theorem run_setMap {b : Nat} {es : Array MapEntry} {clock : Nat} (h : w.heap[b]? = some (.map es clock)) (o' : Obj) : (setObj b o').run P w = .ok () (Go.ChangeMaps.setBlock w b o') := by
  simp [setObj, Sem.run, h, Go.ChangeMaps.setBlock]
theorem MapO.set {ke : κ → Value} {ve : ν → Value} {l : List (κ × ν)} {es : Array MapEntry} {clock j : Nat} {k : κ} {v : ν} (h : es.toList.map (fun e => (e.key, e.val)) = l.map (fun p => (ke p.1, ve p.2))) (hn : (es.toList.map (·.born)).Nodup) (hc : ∀ e ∈ es.toList, e.born < clock) :
    MapO ke ve (l.set j (k, v)) (.map (es.modify j fun e => { e with key := ke k, val := ve v }) clock) := by
  have hlen : es.toList.length = l.length := by have := congrArg List.length h; simpa using this
  refine ⟨_, _, rfl, ?_, ?_, fun e he => ?_⟩
  · apply List.ext_getElem?
    intro i
    have hi := congrArg (fun x => x[i]?) h
    simp only [List.getElem?_map] at hi
    rw [Array.toList_modify, List.getElem?_map, List.getElem?_map, List.getElem?_modify]
    by_cases hij : j = i
    · subst hij
      by_cases hj : j < l.length
      · rw [List.getElem?_set_self hj, List.getElem?_eq_getElem (by omega)]
        simp
      · rw [List.getElem?_eq_none (by omega), List.getElem?_eq_none (by simp; omega)]
        rfl
    · rw [List.getElem?_set_ne hij, ← hi]
      cases es.toList[i]? <;> simp [hij]
  · have : (es.modify j fun e => { e with key := ke k, val := ve v }).toList.map (·.born) = es.toList.map (·.born) := by
      apply List.ext_getElem?
      intro i
      rw [Array.toList_modify, List.getElem?_map, List.getElem?_map, List.getElem?_modify]
      cases es.toList[i]? with
      | none => rfl
      | some e => by_cases hij : j = i <;> simp [hij]
    rw [this]; exact hn
  · rw [Array.toList_modify] at he
    obtain ⟨i, hi, rfl⟩ := List.mem_iff_getElem.1 he
    have hi' : i < es.toList.length := by simpa using hi
    have := hc _ (List.getElem_mem hi')
    rw [List.getElem_modify]
    split <;> simpa using this
theorem st_mapUpdate {t kt et : TypeId} {ke : κ → Value} {ve : ν → Value} {b : Nat} {o : Obj} {l : List (κ × ν)} {h : List (Nat × Obj)} {ks : List Nat} (ht : P.underlying t = some (.map kt et)) (hk : KeyOk P kt ke) (hU : Upd W w ks) (hO : Owns w h) (i : Nat) (hi : h[i]? = some (b, o)) (hm : MapO ke ve l o) (hb : b ∈ ks ∨ W.heap.size ≤ b) (k : κ) (v : ν)
    (hK : ∀ w' o', MapO ke ve (aSet l k v) o' → Upd W w' ks → Owns w' (h.set i (b, o')) → K undef w') : (std P).step (sMapUpdate t (.map (some b)) (ke k) (ve v)) w K := by
  obtain ⟨es, clock, rfl, hes, hn, hc⟩ := hm
  have hbl := hO.at_ i hi
  have hrun : ∀ o', (Instr.mapUpdate t (.map (some b)) (ke k) (ve v)).run P w = .ok () (Go.ChangeMaps.setBlock w b o') → (sMapUpdate t (.map (some b)) (ke k) (ve v)).run P w = .ok .skip (Go.ChangeMaps.setBlock w b o') := fun o' h => by
    unfold sMapUpdate sU
    rw [Sem.run_bind, h]
    rfl
  have fin : ∀ o', MapO ke ve (aSet l k v) o' → (Instr.mapUpdate t (.map (some b)) (ke k) (ve v)).run P w = .ok () (Go.ChangeMaps.setBlock w b o') → (std P).step (sMapUpdate t (.map (some b)) (ke k) (ve v)) w K := fun o' hm' h => by
    rw [step_skip (hrun o' h)]
    exact hK _ o' hm' (hU.then_ (Upd.setBlock w b o') fun x hx => by simp at hx; subst hx; exact hb) (hO.putObj i hi o')
  cases hf : aFind l k 0 with
  | none =>
    refine fin (.map (es.push { key := ke k, val := ve v, born := clock }) (clock + 1)) ?_ ?_
    · unfold aSet
      rw [hf]
      refine ⟨_, _, rfl, by simp [hes], ?_, fun e he => ?_⟩
      · rw [Array.toList_push, List.map_append, List.nodup_append]
        refine ⟨hn, by simp, fun a ha c hc' => ?_⟩
        obtain ⟨e, he, rfl⟩ := List.mem_map.1 ha
        simp at hc'
        have := hc e he
        omega
      · rw [Array.toList_push] at he
        rcases List.mem_append.1 he with he | he
        · have := hc e he; omega
        · simp at he; subst he; simp
    · unfold Instr.mapUpdate
      rw [Sem.run_bind, run_underlying' ht]
      simp only [Result.andThen_ok, Sem.run_bind, run_getMap hbl, run_checkKey hk, run_findKey hk k es.toList l hes, hf, Option.map_none, run_setMap hbl]
  | some p =>
    obtain ⟨j, v0⟩ := p
    obtain ⟨-, hj⟩ := aFind_some hf
    rw [Nat.sub_zero] at hj
    refine fin (.map (es.modify j fun e => { e with key := ke k, val := ve v }) clock) ?_ ?_
    · unfold aSet
      rw [hf]
      exact MapO.set hes hn hc
    · have hlen : es.toList.length = l.length := by have := congrArg List.length hes; simpa using this
      have hjl : j < l.length := (List.getElem?_eq_some_iff.1 hj).1
      have hkey : (es[j]?).map (·.key) = some (ke k) := by
        have h1 := congrArg (fun x => x[j]?) hes
        simp only [List.getElem?_map, hj, Option.map_some] at h1
        rw [← Array.getElem?_toList]
        cases he : es.toList[j]? with
        | none => rw [he] at h1; cases h1
        | some e => rw [he] at h1; simp at h1; simp [h1.1]
      unfold Instr.mapUpdate
      rw [Sem.run_bind, run_underlying' ht]
      simp only [Result.andThen_ok, Sem.run_bind, run_getMap hbl, run_checkKey hk, run_findKey hk k es.toList l hes, hf, Option.map_some, hkey, Option.getD_some]
      unfold Instr.keyThatStays
      rw [if_pos (hk.bits k)]
      simp only [Sem.run_pure, Result.andThen_ok, run_setMap hbl]
theorem map_eraseIdx' {α β : Type} (f : α → β) (l : List α) (j : Nat) : (l.eraseIdx j).map f = (l.map f).eraseIdx j := by
  rw [List.eraseIdx_eq_take_drop_succ, List.eraseIdx_eq_take_drop_succ, List.map_append, List.map_take, List.map_drop]
theorem MapO.erase {ke : κ → Value} {ve : ν → Value} {l : List (κ × ν)} {es : Array MapEntry} {clock j : Nat} (h : es.toList.map (fun e => (e.key, e.val)) = l.map (fun p => (ke p.1, ve p.2))) (hn : (es.toList.map (·.born)).Nodup) (hc : ∀ e ∈ es.toList, e.born < clock) :
    MapO ke ve (l.eraseIdx j) (.map (es.eraseIdxIfInBounds j) clock) := by
  have e1 : (es.eraseIdxIfInBounds j).toList = es.toList.eraseIdx j := by simp
  refine ⟨_, _, rfl, ?_, ?_, fun e he => ?_⟩
  · rw [e1, map_eraseIdx', h, map_eraseIdx']
  · rw [e1]
    exact hn.sublist ((List.eraseIdx_sublist _ _).map _)
  · rw [e1] at he
    exact hc e ((List.eraseIdx_sublist _ _).mem he)
theorem st_mapDelete {t kt et ty kt' : TypeId} {cs : List Bool} {ke : κ → Value} {ve : ν → Value} {b : Nat} {o : Obj} {l : List (κ × ν)} {h : List (Nat × Obj)} {ks : List Nat} (ht : P.underlying t = some (.map kt et)) (hk : KeyOk P kt ke) (hU : Upd W w ks) (hO : Owns w h) (i : Nat) (hi : h[i]? = some (b, o)) (hm : MapO ke ve l o) (hb : b ∈ ks ∨ W.heap.size ≤ b) (k : κ)
    (hK : ∀ w' o', MapO ke ve (aDel l k) o' → Upd W w' ks → Owns w' (h.set i (b, o')) → K (.tuple #[]) w') : (std P).step (sBuiltin .delete #[t, kt'] ty cs [.map (some b), ke k]) w K := by
  obtain ⟨es, clock, rfl, hes, hn, hc⟩ := hm
  have hbl := hO.at_ i hi
  have hrun : ∀ o', (Builtin.delete_ #[t, kt'] ty #[.map (some b), ke k]).run P w = .ok (.tuple #[]) (Go.ChangeMaps.setBlock w b o') → (sBuiltin .delete #[t, kt'] ty cs [.map (some b), ke k]).run P w = .ok (.value (.tuple #[])) (Go.ChangeMaps.setBlock w b o') := fun o' h => by
    show (do pure (.value (← Builtin.delete_ #[t, kt'] ty #[.map (some b), ke k])) : Sem Next).run P w = _
    rw [Sem.run_bind, h]; rfl
  have fin : ∀ o', MapO ke ve (aDel l k) o' → (Builtin.delete_ #[t, kt'] ty #[.map (some b), ke k]).run P w = .ok (.tuple #[]) (Go.ChangeMaps.setBlock w b o') → (std P).step (sBuiltin .delete #[t, kt'] ty cs [.map (some b), ke k]) w K := fun o' hm' h => by
    rw [step_run (hrun o' h)]
    exact hK _ o' hm' (hU.then_ (Upd.setBlock w b o') fun x hx => by simp at hx; subst hx; exact hb) (hO.putObj i hi o')
  cases hf : aFind l k 0 with
  | none =>
    refine fin (.map es clock) ?_ ?_
    · unfold aDel
      rw [hf]
      exact ⟨es, clock, rfl, hes, hn, hc⟩
    · unfold Builtin.delete_
      simp only [List.getElem?_toArray, List.getElem?_cons_zero, List.getElem?_cons_succ]
      rw [Sem.run_bind, run_underlying' ht]
      simp only [Result.andThen_ok, Sem.run_bind, run_getMap hbl, run_checkKey hk, run_findKey hk k es.toList l hes, hf, Option.map_none, run_setMap hbl, Sem.run_pure]
  | some p =>
    obtain ⟨j, v0⟩ := p
    refine fin (.map (es.eraseIdxIfInBounds j) clock) ?_ ?_
    · unfold aDel
      rw [hf]
      exact MapO.erase hes hn hc
    · unfold Builtin.delete_
      simp only [List.getElem?_toArray, List.getElem?_cons_zero, List.getElem?_cons_succ]
      rw [Sem.run_bind, run_underlying' ht]
      simp only [Result.andThen_ok, Sem.run_bind, run_getMap hbl, run_checkKey hk, run_findKey hk k es.toList l hes, hf, Option.map_some, run_setMap hbl, Sem.run_pure]
theorem st_makeMap {t : TypeId} {h : List (Nat × Obj)} {ks : List Nat} (hU : Upd W w ks) (hO : Owns w h)
    (hK : ∀ g w', Upd W w' ks → Owns w' ((g, .map #[] 0) :: h) → W.heap.size ≤ g → K (.map (some g)) w') : (std P).step (sMakeMap t none) w K := by
  have hrun : (sMakeMap t none).run P w = .ok (.value (.map (some w.heap.size))) (w.alloc (.map #[] 0)) := by
    unfold sMakeMap
    rw [run_sV]
    simp [Instr.makeMap, newObj, Sem.run_bind, Sem.run]
  rw [step_run hrun]
  exact hK _ _ (hU.trans (Upd.alloc w _ ks)) (hO.alloc _) hU.size

/-- an iterator that has these left -/
def IterH (ke : κ → Value) (ve : ν → Value) (m : Nat) (o : Obj) (left : List (κ × ν)) (ob : Obj) : Prop :=
  ∃ es clock since seen c0, o = .map es clock ∧ ob = .mapIter (some m) since seen c0 ∧ since ≤ c0 ∧ since ≤ clock ∧ (∀ e ∈ es.toList, e.born < since) ∧ (es.toList.map (·.born)).Nodup ∧ (es.toList.filter fun e => !seen.contains e.born).map (fun e => (e.key, e.val)) = left.map (fun p => (ke p.1, ve p.2))
theorem st_range {t kt et : TypeId} {ke : κ → Value} {ve : ν → Value} {b : Nat} {o : Obj} {l : List (κ × ν)} {h : List (Nat × Obj)} {ks : List Nat} (ht : P.underlying t = some (.map kt et)) (hU : Upd W w ks) (hO : Owns w h) (i : Nat) (hi : h[i]? = some (b, o)) (hm : MapO ke ve l o)
    (hK : ∀ g w' ob, IterH ke ve b o l ob → Upd W w' ks → Owns w' ((g, ob) :: h) → W.heap.size ≤ g → K (.pointer (some ⟨g, 0, none⟩)) w') : (std P).step (sRange t (.map (some b))) w K := by
  obtain ⟨es, clock, rfl, hes, hn, hc⟩ := hm
  have hbl := hO.at_ i hi
  have hrun : (sRange t (.map (some b))).run P w = .ok (.value (.pointer (some ⟨w.heap.size, 0, none⟩))) (w.alloc (.mapIter (some b) clock #[] clock)) := by
    unfold sRange Instr.range
    rw [run_sV, Sem.run_bind, run_underlying' ht]
    simp only [Result.andThen_ok, Sem.run_bind, run_getMap hbl, Sem.run_pure]
    simp [newObj, Sem.run_bind, Sem.run]
  rw [step_run hrun]
  refine hK _ _ _ ⟨es, clock, clock, #[], clock, rfl, rfl, Nat.le_refl _, Nat.le_refl _, hc, hn, ?_⟩ (hU.trans (Upd.alloc w _ ks)) (hO.alloc _) hU.size
  have : (es.toList.filter fun e => !(#[] : Array Nat).contains e.born) = es.toList := List.filter_eq_self.2 fun e he => by simp
  rw [this]; exact hes
theorem filter_push {es a b : List MapEntry} {seen : Array Nat} {e : MapEntry} (hn : (es.map (·.born)).Nodup) (hab : (es.filter fun x => !seen.contains x.born) = a ++ e :: b) :
    (es.filter fun x => !(seen.push e.born).contains x.born) = a ++ b := by
  have h1 : (es.filter fun x => !(seen.push e.born).contains x.born) = (es.filter fun x => !seen.contains x.born).filter fun x => !(x.born == e.born) := by
    rw [List.filter_filter]
    refine List.filter_congr fun x hx => ?_
    rw [Array.contains_push]
    cases seen.contains x.born <;> cases h : (x.born == e.born) <;> simp_all
  have hs : ((a ++ e :: b).map (·.born)).Nodup := by
    rw [← hab]
    exact hn.sublist (List.filter_sublist.map _)
  rw [h1, hab, List.filter_append, List.filter_cons_of_neg (by simp)]
  rw [List.map_append, List.map_cons, List.nodup_append, List.nodup_cons] at hs
  congr 1
  · refine List.filter_eq_self.2 fun x hx => ?_
    have := hs.2.2 x.born (List.mem_map_of_mem hx) e.born (List.mem_cons_self ..)
    simpa using this
  · refine List.filter_eq_self.2 fun x hx => ?_
    have : x.born ≠ e.born := fun h => hs.2.1.1 (h ▸ List.mem_map_of_mem hx)
    simpa using this
theorem st_next {ty : TypeId} {ke : κ → Value} {ve : ν → Value} {r m : Nat} {o ob : Obj} {left : List (κ × ν)} {h : List (Nat × Obj)} {ks : List Nat} (hU : Upd W w ks) (hO : Owns w h) (i : Nat) (hi : h[i]? = some (r, ob)) (j : Nat) (hj : h[j]? = some (m, o)) (hI : IterH ke ve m o left ob) (hr : r ∈ ks ∨ W.heap.size ≤ r)
    (h0 : left = [] → K (.tuple #[.bool false]) w)
    (h1 : ∀ (p : κ × ν) (left' : List (κ × ν)) (w' : World) (ob' : Obj), (p :: left').Perm left → IterH ke ve m o left' ob' → (∀ w'' : World, w''.heap[r]? = some ob' → w''.heap[m]? = some o → (sEntry (.pointer (some ⟨r, 0, none⟩))).run P w'' = .ok (.value (.tuple #[ke p.1, ve p.2])) w'') → Upd W w' ks → Owns w' (h.set i (r, ob')) → K (.tuple #[.bool true, ke p.1, ve p.2]) w') : (std P).step (sNext (.pointer (some ⟨r, 0, none⟩)) false ty) w K := by
  obtain ⟨es, clock, since, seen, c0, rfl, rfl, hsc, hcl, hold, hn, hl⟩ := hI
  have hrb := hO.at_ i hi
  have hmb := hO.at_ j hj
  have hlo : (leftOf es seen).toList = es.toList.filter fun e => !seen.contains e.born := by simp [leftOf]
  rcases run_next_at (P := P) w ty r m since c0 seen es clock hrb hmb hold hsc with ⟨hz, hrun⟩ | ⟨e, he, w1, hw1, hrun⟩
  · have : left = [] := by
      have h2 := congrArg List.length hl
      rw [← hlo] at h2
      simp only [List.length_map] at h2
      rw [Array.length_toList, hz] at h2
      exact List.eq_nil_of_length_eq_zero h2.symm
    have hs : (sNext (.pointer (some ⟨r, 0, none⟩)) false ty).run P w = .ok (.value (.tuple #[.bool false])) w := by
      unfold sNext
      rw [run_sV, hrun]; rfl
    rw [step_run hs]
    exact h0 this
  · rw [hlo] at he
    -- the pair that comes out
    obtain ⟨a, b, hab⟩ : ∃ a b, (es.toList.filter fun x => !seen.contains x.born) = a ++ e :: b := List.append_of_mem he
    rw [hab, List.map_append, List.map_cons] at hl
    obtain ⟨la, lp, rfl, hla, hlp⟩ := List.map_eq_append_iff.1 hl.symm
    obtain ⟨p, lb, rfl, hpe, hlb⟩ := List.map_eq_cons_iff.1 hlp
    simp only [Prod.mk.injEq] at hpe
    have hs : (sNext (.pointer (some ⟨r, 0, none⟩)) false ty).run P w = .ok (.value (.tuple #[.bool true, ke p.1, ve p.2])) (Go.ChangeMaps.setBlock w1 r (.mapIter (some m) since (seen.push e.born) clock)) := by
      unfold sNext
      rw [run_sV, hrun, hpe.1, hpe.2]; rfl
    rw [step_run hs]
    have hU1 : Upd w w1 [] := by rcases hw1 with rfl | rfl; exact Upd.refl _ []; exact Upd.drew w []
    have hO1 := hO.ext hU1
    refine h1 p (la ++ lb) _ _ List.perm_middle.symm ⟨es, clock, since, seen.push e.born, clock, rfl, rfl, hcl, hcl, hold, hn, ?_⟩ (fun w'' q1 q2 => ?_) ((hU.then_ hU1 fun x hx => by cases hx).then_ (Upd.setBlock w1 r _) fun x hx => ?_) (hO1.putObj i hi _)
    · rw [filter_push hn hab, List.map_append, List.map_append, hla, hlb]
    · unfold sEntry
      rw [run_sV, run_entry_at w'' r m since seen es clock e q1 q2 (List.mem_filter.1 he).1 hn, hpe.1, hpe.2]; rfl
    · simp at hx
      subst hx
      exact hr.elim .inl fun h => .inr h
theorem st_mapLen {t ty : TypeId} {cs : List Bool} {kt et : TypeId} {ke : κ → Value} {ve : ν → Value} {b : Nat} {o : Obj} {l : List (κ × ν)} (ht : P.underlying t = some (.map kt et)) (hb : w.heap[b]? = some o) (hm : MapO ke ve l o) : (std P).step (sBuiltin .len #[t] ty cs [.map (some b)]) w K = K (.int .i64 (l.length : Nat)) w := by
  obtain ⟨es, clock, rfl, hes, -⟩ := hm
  have hl : es.size = l.length := by have := congrArg List.length hes; simpa using this
  have hrun : (sBuiltin .len #[t] ty cs [.map (some b)]).run P w = .ok (.value (.int .i64 (l.length : Nat))) w := by
    show (do pure (.value (← Builtin.len_ #[t] ty #[.map (some b)])) : Sem Next).run P w = _
    have h1 : (Builtin.len_ #[t] ty #[.map (some b)]).run P w = .ok (.int .i64 (l.length : Nat)) w := by
      simp only [Builtin.len_, Builtin.lenOf]
      simp [Sem.run_bind, run_underlying' ht, run_getMap hb, goInt, hl]
    rw [Sem.run_bind, h1]; rfl
  rw [step_run hrun]
end

section
open Classical in
theorem least_ofK {P : Nat → Prop} : ∀ n, P n → ∃ k, P k ∧ ∀ j, P j → k ≤ j := by
  intro n
  induction n using Nat.strongRecOn with
  | ind n ih =>
    intro hn
    by_cases h : ∃ m, m < n ∧ P m
    · obtain ⟨m, hm, hp⟩ := h
      exact ih m hm hp
    · exact ⟨n, hn, fun j hj => by
        rcases Nat.lt_or_ge j n with hlt | hge
        · exact absurd ⟨j, hlt, hj⟩ h
        · exact hge⟩
open Classical in
noncomputable def minK (I : Nat → List Value → World → Prop) (vs : List Value) (w : World) : Nat := if h : ∃ k, I k vs w then Classical.choose (least_ofK (P := fun k => I k vs w) _ (Classical.choose_spec h)) else 0
theorem minK_spec {I : Nat → List Value → World → Prop} {vs : List Value} {w : World} (h : ∃ k, I k vs w) : I (minK I vs w) vs w ∧ ∀ j, I j vs w → minK I vs w ≤ j := by
  unfold minK
  rw [dif_pos h]
  exact Classical.choose_spec (least_ofK (P := fun k => I k vs w) _ (Classical.choose_spec h))
theorem minK_go {I : Nat → List Value → World → Prop} {vs : List Value} {w : World} {k k' : Nat} (h : I k' vs w) (hlt : k' < k) : (∃ k, I k vs w) ∧ minK I vs w < k := ⟨⟨k', h⟩, Nat.lt_of_le_of_lt ((minK_spec ⟨k', h⟩).2 k' h) hlt⟩
end
end Go.Proofs.Ytakifgecgmdjcaa
