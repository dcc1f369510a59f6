/- Locks: edges, sorted. -/
import Derived.Test.YtakifgecgmdjcaaLkAJ
import Derived.Test.YtakifgecgmdjcaaSz
import Derived.Shelf.SlSortCmp.NoneTotal
namespace Go.Proofs.Ytakifgecgmdjcaa
open Go Xf Go.RowKit Go.Sort Go.Shelf Go.Lib
set_option linter.unusedVariables false
set_option linter.unusedSimpArgs false
set_option maxRecDepth 100000

def okE (e : Ed) : Prop := 0 ≤ e.1 ∧ e.1 < 9223372036854775808 ∧ 0 ≤ e.2 ∧ e.2 < 9223372036854775808
abbrev OE := { e : Ed // okE e }
instance : Inhabited OE := ⟨⟨(0, 0), by unfold okE; omega⟩⟩
def encE (x : OE) : List Value := edV x.1
def cfE (x y : OE) : Int := if x.1.1 ≠ y.1.1 then x.1.1 - y.1.1 else x.1.2 - y.1.2
def edLt (a b : Ed) : Prop := a.1 < b.1 ∨ (a.1 = b.1 ∧ a.2 < b.2)
theorem ltE (x y : OE) : ltOf cfE x y = true ↔ edLt x.1 y.1 := by
  unfold ltOf cfE edLt
  rw [decide_eq_true_iff]
  split <;> omega
theorem ltE_false (x y : OE) : ltOf cfE x y = false ↔ ¬ edLt x.1 y.1 := by
  rw [← ltE]; simp
theorem swoE : SWO (ltOf cfE) where
  irrefl x := by rw [ltE_false]; unfold edLt; omega
  trans x y z h1 h2 := by rw [ltE] at *; unfold edLt at *; omega
  ntrans x y z h1 h2 := by rw [ltE_false] at *; unfold edLt at *; omega
theorem cmp_closure (x y : OE) (W : World) : Calls Try.prog 35 #[.agg (encE x).toArray, .agg (encE y).toArray] W fun e w' => e = .returned (.int .i64 (cfE x y)) ∧ ∃ q os', w' = grow (W.drewN q) os' := by
  refine Calls.mono (show CallsR Try.prog 35 #[.agg (edV x.1).toArray, .agg (edV y.1).toArray] W fun u w' => u = .int .i64 (cfE x y) ∧ ∃ q os', w' = grow (W.drewN q) os' from ?_) fun e w' ⟨v, he, hv, hw⟩ => ⟨by rw [he, hv], hw⟩
  apply lock_Table_Edges_2_sound
  unfold lock_Table_Edges_2_x
  rw [step_run run_sBox, step_run run_sBox]
  obtain ⟨⟨a, b⟩, hx⟩ := x
  obtain ⟨⟨c, d⟩, hy⟩ := y
  unfold okE at hx hy
  simp only at hx hy
  have w2 : ∃ q os', (W.alloc (.cells (Value.agg (edV (a, b)).toArray).cells 53)).alloc (.cells (Value.agg (edV (c, d)).toArray).cells 53) = grow (W.drewN q) os' := ⟨0, _, by rw [alloc_eq_grow, alloc_eq_grow, grow_grow]; rfl⟩
  have h1 : ((W.alloc (.cells (Value.agg (edV (a, b)).toArray).cells 53)).alloc (.cells (Value.agg (edV (c, d)).toArray).cells 53)).heap[W.heap.size]? = some (.cells #[.int .i64 a, .int .i64 b] 53) := by
    rw [show ∀ (w : World) (o : Obj) (k : Nat), k < w.heap.size → (w.alloc o).heap[k]? = w.heap[k]? from fun w o k h => (Upd.alloc w o []).keep k h (by simp)]
    · exact heap_alloc_new _ _
    · simp
  have h2 : ((W.alloc (.cells (Value.agg (edV (a, b)).toArray).cells 53)).alloc (.cells (Value.agg (edV (c, d)).toArray).cells 53)).heap[(W.alloc (.cells (Value.agg (edV (a, b)).toArray).cells 53)).heap.size]? = some (.cells #[.int .i64 c, .int .i64 d] 53) := heap_alloc_new _ _
  generalize (W.alloc (.cells (Value.agg (edV (a, b)).toArray).cells 53)).alloc (.cells (Value.agg (edV (c, d)).toArray).cells 53) = w2' at w2 h1 h2
  generalize (W.alloc (.cells (Value.agg (edV (a, b)).toArray).cells 53)).heap.size = g2 at h2
  have c0 : w2'.cell? ⟨W.heap.size, 0, none⟩ = some (.int .i64 a) := (cell_at h1).trans rfl
  have c1 : w2'.cell? ⟨W.heap.size, 1, none⟩ = some (.int .i64 b) := (cell_at h1).trans rfl
  have d0 : w2'.cell? ⟨g2, 0, none⟩ = some (.int .i64 c) := (cell_at h2).trans rfl
  have d1 : w2'.cell? ⟨g2, 1, none⟩ = some (.int .i64 d) := (cell_at h2).trans rfl
  simp (disch := first | assumption | omega) only [PX, BX, LX, add_mk, Nat.reduceAdd]
  unfold cfE
  refine ⟨fun hne => ⟨?_, w2⟩, fun he => ⟨?_, w2⟩⟩
  · rw [if_pos hne, w64 (by omega) (by omega)]
  · rw [if_neg he, w64 (by omega) (by omega)]
theorem cmp_lays (blk off size : Nat) (w : World) : CmpLays Try.prog 35 #[] encE 2 cfE blk off size w := fun _ _ _ _ x y => cmp_closure x y _
theorem enters_cmp : ∀ args w, (callFunc 35 args).run Try.prog w = .ok (.enter 35 args) w := enters_of Try.func35 (by kernel_rfl) rfl
def cmpV : Value := .func (.func 35) #[] #[]
section
variable {w W : World} {ks : List Nat} {F : List (Nat × Obj)}
theorem flat_get (d : Array OE) (t : Nat) (h : t < d.size * 2) : (flatK encE 2 d)[t]? = (edsV (d.toList.map (·.1)))[t]? := by
  have hs : t < (flatK encE 2 d).size := by simpa using h
  have h1 : (flatK encE 2 d)[t]? = some (flatK encE 2 d)[t]! := by rw [getElem!_pos _ t hs, Array.getElem?_eq_getElem hs]
  have hq : t / 2 < (d.toList.map (·.1)).length := by simp; omega
  have h2 : (edsV (d.toList.map (·.1)))[t]? = (edV (d.toList.map (·.1))[t / 2])[t % 2]? := by
    have := flat_at edV 2 (fun _ => rfl) (d.toList.map (·.1)) (t / 2) hq (t % 2) (by omega)
    rw [show t / 2 * 2 + t % 2 = t by omega] at this
    exact this
  rw [h1, get_flatK _ _ _ _ h, h2]
  have hd : d[t / 2]! = d[t / 2]'(by simpa using hq) := getElem!_pos _ _ _
  have hm : t % 2 < 2 := by omega
  rw [hd]
  have e : (d.toList.map (·.1))[t / 2] = (d[t / 2]'(by simpa using hq)).1 := by simp
  rw [e]
  unfold encE
  generalize (d[t / 2]'(by simpa using hq)).1 = x
  match ht : t % 2, hm with
  | 0, _ => rfl
  | 1, _ => rfl
theorem Sort_spec {hl : List (Nat × Obj)} {v : Value} {l : List Ed} (hr : RowH 53 2 v l.length (edsV l) hl) (hl9 : l.length ≤ 1000000000) (hok : ∀ e ∈ l, okE e) (hO : Owns w (hl ++ F)) (hU : Upd W w ks) (hh : ∀ p ∈ hl, p.1 ∈ ks ∨ W.heap.size ≤ p.1) :
    CallsR Try.prog 34 #[v, cmpV] w fun u w' => ∃ (l' : List Ed) (h' : List (Nat × Obj)), l'.Perm l ∧ l'.Pairwise (fun a b => ¬ edLt b a) ∧ RowH 53 2 v l'.length (edsV l') h' ∧ Owns w' (h' ++ F) ∧ Upd W w' ks ∧ ∀ p ∈ h', p.1 ∈ ks ∨ W.heap.size ≤ p.1 := by
  rcases hr.2 with ⟨rfl, h0, rfl⟩ | ⟨gt, cap, cs0, rfl, rfl, hcap, hmax, hsz0, htk0⟩
  · have hl0 : l = [] := List.eq_nil_of_length_eq_zero h0
    subst hl0
    have hcon := AnyF.slices_SortFunc_none { Try.sortE with } none 0 cmpV w
    change Calls Try.prog 34 _ _ _ at hcon
    refine Calls.mono hcon ?_
    rintro e w' ⟨rfl, rfl⟩
    exact ⟨_, rfl, [], [], List.Perm.refl _, List.Pairwise.nil, RowH.nil_ _ _, hO, hU, fun p hp => by cases hp⟩
  obtain ⟨d, hd⟩ : ∃ d : Array OE, d.toList.map (·.1) = l := ⟨(l.attach.map fun x => (⟨x.1, hok x.1 x.2⟩ : OE)).toArray, by simp only [List.map_map, Function.comp_def]; exact List.attach_map_subtype_val l⟩
  have hdl : d.size = l.length := by rw [← hd]; simp
  have hb := hO.at_ 0 (rfl : ([(gt, Obj.cells cs0 53 (0, 0))] ++ F)[0]? = _)
  have hH : HoldsK encE 2 w gt 0 d := by
    intro j hj
    rw [size_flatK] at hj
    refine ⟨?_, frozen_at hb (.inr (Nat.zero_le _))⟩
    rw [cell_at hb, Nat.zero_add]
    have h1 : (flatK encE 2 d)[j]? = some (id (flatK encE 2 d)[j]!) := by
      have hs : j < (flatK encE 2 d).size := by simpa using hj
      rw [getElem!_pos _ j hs, Array.getElem?_eq_getElem hs]; rfl
    rw [← h1, flat_get d j hj, hd, ← htk0, List.getElem?_take, if_pos (by omega)]
    simp
  have hcon := AnyQ.slices_SortFunc Try.sortE 2 Try.isAgg53 Try.sizeOf53 encE (fun _ => rfl) (fun x v hv => by simp [encE, edV] at hv; rcases hv with rfl | rfl <;> rfl) cfE swoE 35 #[] gt 0 cap d w enters_cmp (cmp_lays gt 0 d.size w) hH (lt_of_some hb) (by omega)
  change Calls Try.prog 34 _ _ _ at hcon
  rw [hdl] at hcon
  refine Calls.mono hcon ?_
  rintro e w' ⟨rfl, d', n, os, hp, hs, rfl⟩
  have hsz' : d'.size = l.length := hp.1.trans hdl
  have hgW := hh _ (List.mem_cons_self ..)
  have hperm : (d'.toList.map (·.1)).Perm l := by
    rw [← hd]
    have := hp.2.2
    rw [← hdl, Array.extract_size, show d.size = d'.size from hp.1.symm, Array.extract_size] at this
    exact this.map _
  have hlen' : (d'.toList.map (·.1)).length = l.length := by simpa using hsz'
  -- the row, written anew
  have hheap : (sortWorldK encE 2 w gt 0 n d' os).heap[gt]? = some (.cells (putCells id 0 (flatK encE 2 d') cs0) 53 (0, 0)) := by
    have hlt := lt_of_some hb
    unfold sortWorldK grow putRowK putRow mapBlock
    show (Array.modify w.heap gt _ ++ os)[gt]? = _
    rw [Array.getElem?_append_left (by simpa using hlt), Array.getElem?_modify, if_pos rfl, hb]
    rfl
  have hother : ∀ k, k < w.heap.size → k ≠ gt → (sortWorldK encE 2 w gt 0 n d' os).heap[k]? = w.heap[k]? := fun k hk hne => by
    unfold sortWorldK grow putRowK putRow mapBlock
    show (Array.modify w.heap gt _ ++ os)[k]? = _
    rw [Array.getElem?_append_left (by simpa using hk), Array.getElem?_modify, if_neg (Ne.symm hne)]
  have hUs : Upd w (sortWorldK encE 2 w gt 0 n d' os) [gt] := ⟨rfl, rfl, rfl, by unfold sortWorldK grow putRowK putRow mapBlock; simp [Sort.ahead], fun k hk hn => hother k hk (by simpa using hn)⟩
  have hF : Owns w F := hO.sub (List.sublist_append_right _ _)
  have hnd : ∀ p ∈ F, p.1 ≠ gt := fun p hp he => by
    have := hO.1
    rw [List.map_append, List.nodup_append] at this
    exact this.2.2 gt (by simp) p.1 (List.mem_map_of_mem hp) he.symm
  have hcsz : (putCells id 0 (flatK encE 2 d') cs0).size = cap * 2 := by unfold putCells; simp [hsz0]
  refine ⟨_, rfl, d'.toList.map (·.1), [(gt, .cells (putCells id 0 (flatK encE 2 d') cs0) 53 (0, 0))], hperm, ?_, ⟨by rw [edsV_len], .inr ⟨gt, cap, _, by rw [hlen'], rfl, by omega, hmax, hcsz, ?_⟩⟩, ⟨?_, ?_⟩, hU.then_ hUs (fun x hx => by simp at hx; subst hx; exact hgW), fun p hp => ?_⟩
  · rw [List.pairwise_iff_getElem]
    intro i j hi hj hij
    have h1 := hs i j (Nat.zero_le _) hij (by rw [← hlen']; exact hj)
    have hi' : i < d'.size := by simpa using hi
    have hj' : j < d'.size := by simpa using hj
    rw [getElem!_pos _ i hi', getElem!_pos _ j hj', ltE_false] at h1
    simpa using h1
  · apply List.ext_getElem?
    intro t
    by_cases ht : t < d'.size * 2
    · rw [List.getElem?_take, if_pos (by rw [hlen']; omega)]
      rw [← flat_get d' t ht]
      have h1 : t < cs0.size := by rw [hsz0]; have := Nat.mul_le_mul_right 2 hcap; omega
      have hs2 : t < (flatK encE 2 d').size := by simpa using ht
      rw [Array.getElem?_toList]
      unfold putCells
      rw [Array.getElem?_mapIdx, Array.getElem?_eq_getElem h1, Option.map_some, if_pos ⟨Nat.zero_le _, by omega⟩, Nat.sub_zero, getElem!_pos _ t hs2, Array.getElem?_eq_getElem hs2]
      rfl
    · rw [List.getElem?_eq_none (by rw [List.length_take]; rw [hlen']; omega), List.getElem?_eq_none (by rw [edsV_len]; rw [hlen']; omega)]
  · rw [List.map_append, List.nodup_append]
    exact ⟨by simp, hF.1, fun a ha b hb he => by
      obtain ⟨p, hp, rfl⟩ := List.mem_map.1 hb
      simp at ha
      exact hnd p hp (by rw [← he, ha])⟩
  · intro p hp
    rcases List.mem_append.1 hp with hp | hp
    · rw [List.mem_singleton] at hp; subst hp; exact hheap
    · rw [hother p.1 (hF.lt hp) (hnd p hp)]; exact hF.2 p hp
  · rw [List.mem_singleton] at hp; subst hp; exact hgW
end
end Go.Proofs.Ytakifgecgmdjcaa
