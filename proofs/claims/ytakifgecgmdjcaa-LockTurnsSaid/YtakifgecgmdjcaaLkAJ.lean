/- Locks: Compact of edges. -/
import Derived.Test.YtakifgecgmdjcaaLkAI
import Derived.Laws.StructEq
import Derived.Tactics
namespace Go.Proofs.Ytakifgecgmdjcaa
open Go Xf Go.RowKit
set_option linter.unusedVariables false
set_option linter.unusedSimpArgs false
set_option maxRecDepth 100000
theorem eqIn_ed (a b : Ed) (w : World) : (Op.equalIn 10000 53 (.agg (edV a).toArray) (.agg (edV b).toArray)).run Try.prog w = .ok (decide (a = b)) w := by
  have u3 := Try.underlying3
  have a3 := Try.isAgg3
  have z3 := Try.sizeOf3
  have hS : Try.prog.underlying 53 = some (.struct (Try.prog.fieldsOf 53)) := by kernel_rfl
  have hp : Try.prog.stoodInHeld 53 = false := by kernel_rfl
  have he : (a.1 == b.1 && a.2 == b.2) = decide (a = b) := by
    obtain ⟨a1, a2⟩ := a
    obtain ⟨b1, b2⟩ := b
    by_cases h1 : a1 = b1 <;> by_cases h2 : a2 = b2 <;> simp [h1, h2]
  rw [← he]
  simp only [edV]
  rw [show (10000 : Nat) = 9999 + 1 from rfl, run_equalIn_agg w 9999 53 _ _ hS hp]
  simp only [Program.fieldsOf, Try.underlying53]
  go_simp
  by_cases h1 : a.fst = b.fst <;> by_cases h2 : a.snd = b.snd <;> simp [h1, h2, Prod.ext_iff]
theorem hm_ed : Try.prog.eqGuardType Try.prog.depth 53 = false := by kernel_rfl
theorem eq_ed (x y : Operand) (a b : Ed) (w : World) : (sBin .eql 53 x y (.agg (edV a).toArray) (.agg (edV b).toArray)).run Try.prog w = .ok (.value (.bool (decide (a = b)))) w := by
  simp only [sBin, run_sV, Sem.run_bind, run_eqGuard_agg w .eql 53 x y _ _ hm_ed, Result.andThen_ok, run_eql_struct, eqIn_ed]
theorem ne_ed (x y : Operand) (a b : Ed) (w : World) : (sBin .neq 53 x y (.agg (edV a).toArray) (.agg (edV b).toArray)).run Try.prog w = .ok (.value (.bool (!decide (a = b)))) w := by
  simp only [sBin, run_sV, Sem.run_bind, run_eqGuard_agg w .neq 53 x y _ _ hm_ed, Result.andThen_ok, run_neq_struct, eqIn_ed]

/-- what stands at j, and is not what stands ahead of it -/
def newB (l : List Ed) (j : Nat) : Bool := decide (j = 0) || !decide (l.getD j (0, 0) = l.getD (j - 1) (0, 0))
def cpt (l : List Ed) : Nat → List Ed
  | 0 => []
  | m + 1 => if newB l m then cpt l m ++ [l.getD m (0, 0)] else cpt l m
theorem cpt_len (l : List Ed) : ∀ m, (cpt l m).length ≤ m
  | 0 => Nat.le_refl _
  | m + 1 => by
    have := cpt_len l m
    unfold cpt
    split
    · rw [List.length_append, List.length_singleton]; omega
    · omega
theorem getD_eq {l : List Ed} {m : Nat} (h : m < l.length) : l.getD m (0, 0) = l[m] := by simp [h]
theorem zeros_ed (m : Nat) : (Builtin.zeroCells (Value.agg #[Value.int .i64 0, Value.int .i64 0]).cells m).toList = List.replicate (m * 2) (Value.int .i64 0) := by
  apply List.ext_getElem?
  intro i
  rw [show (Value.agg #[Value.int .i64 0, Value.int .i64 0]).cells = #[Value.int .i64 0, Value.int .i64 0] from rfl]
  simp only [Builtin.zeroCells, Array.toList_map, List.getElem?_map, List.getElem?_replicate]
  by_cases hi : i < m * 2
  · rcases Nat.mod_two_eq_zero_or_one i with h | h <;> simp [hi, h]
  · simp [hi]
theorem st_clearE {w W : World} {K : Value → World → Prop} {ty : TypeId} {cs : List Bool} {te : TypeId} {g off m c : Nat} {cur : Array Value} {h : List (Nat × Obj)} {ks : List Nat} (hU : Upd W w ks) (hO : Owns w h) (i : Nat) (hi : h[i]? = some (g, .cells cur te (0, 0))) (hfit : off + m * 2 ≤ cur.size) (h0 : 0 < m) (hg : g ∈ ks ∨ W.heap.size ≤ g)
    (hk : ∀ w', Upd W w' ks → Owns w' (h.set i (g, .cells (cur.toList.take off ++ List.replicate (m * 2) (Value.int .i64 0) ++ cur.toList.drop (off + m * 2)).toArray te (0, 0))) → K (.tuple #[]) w') :
    (std Try.prog).step (sBuiltin .clear #[49] ty cs [.slice (some ⟨g, off, none⟩) m c]) w K := by
  obtain ⟨m, rfl⟩ : ∃ m', m = m' + 1 := ⟨m - 1, by omega⟩
  have hb := hO.at_ i hi
  have hst := run_storeCells_at Try.prog g off te (List.replicate ((m + 1) * 2) (Value.int .i64 0)) 0 cur w hb (by simpa using hfit) (fun v hv => by rw [List.eq_of_mem_replicate hv]; rfl)
  have h1 : (Builtin.clear_ #[49] ty #[.slice (some ⟨g, off, none⟩) (m + 1) c]).run Try.prog w = .ok (.tuple #[]) (w.setRow g (cur.toList.take off ++ List.replicate ((m + 1) * 2) (Value.int .i64 0) ++ cur.toList.drop (off + (m + 1) * 2)).toArray) := by
    simp only [Builtin.clear_, List.getElem?_toArray, List.getElem?_cons_zero]
    rw [Sem.run_bind, run_underlying' u49]
    simp only [Result.andThen_ok, Sem.run_bind, run_zero ze53]
    rw [zeros_ed, hst]
    simp
  have hrun : (sBuiltin .clear #[49] ty cs [.slice (some ⟨g, off, none⟩) (m + 1) c]).run Try.prog w = .ok (.value (.tuple #[])) (w.setRow g (cur.toList.take off ++ List.replicate ((m + 1) * 2) (Value.int .i64 0) ++ cur.toList.drop (off + (m + 1) * 2)).toArray) := by
    show (do pure (.value (← Builtin.clear_ #[49] ty #[.slice (some ⟨g, off, none⟩) (m + 1) c])) : Sem Next).run Try.prog w = _
    rw [Sem.run_bind, h1]; rfl
  rw [step_run hrun]
  exact hk _ (hU.then_ (Upd.setRow _ _ _) fun y hy => by simp at hy; subst hy; exact hg) (hO.setRow i hi _)
/-- an edge of a block -/
theorem ed_load {w : World} {g j : Nat} {cs : Array Value} {te : TypeId} {fr : Nat × Nat} {e : Ed} (h : w.heap[g]? = some (.cells cs te fr)) (h0 : cs[j * 2]? = some (.int .i64 e.1)) (h1 : cs[j * 2 + 1]? = some (.int .i64 e.2)) : (loadVar 53 ⟨g, j * 2, none⟩).run Try.prog w = .ok (.agg (edV e).toArray) w :=
  run_loadVarN (cs := edV e) ag53 (by rw [sz53]; rfl) fun i v hi => by
    rw [add_mk, cell_at h]
    match i with
    | 0 => simp [edV] at hi; subst hi; exact h0
    | 1 => simp [edV] at hi; subst hi; exact h1
    | i + 2 => simp [edV] at hi
section
variable {w W : World} {ks : List Nat} {F : List (Nat × Obj)}
theorem Compact_spec {hl : List (Nat × Obj)} {v : Value} {l : List Ed} (hr : RowH 53 2 v l.length (edsV l) hl) (hl9 : l.length ≤ 1000000000) (hO : Owns w (hl ++ F)) (hU : Upd W w ks) (hh : ∀ p ∈ hl, p.1 ∈ ks ∨ W.heap.size ≤ p.1) :
    CallsR Try.prog 36 #[v] w fun u w' => ∃ h', RowH 53 2 u (cpt l l.length).length (edsV (cpt l l.length)) h' ∧ Owns w' (h' ++ F) ∧ Upd W w' ks ∧ ∀ p ∈ h', p.1 ∈ ks ∨ W.heap.size ≤ p.1 := by
  apply api_Edge_sound
  unfold api_Edge_x api_Edge_k1
  rcases hr.2 with ⟨rfl, h0, rfl⟩ | ⟨gt, cap, cs0, rfl, rfl, hcap, hmax, hsz0, htk0⟩
  · have hl0 : l = [] := List.eq_nil_of_length_eq_zero h0
    subst hl0
    simp (disch := omega) only [PX, BX]
    refine ⟨fun _ => ⟨[], RowH.nil_ _ _, hO, hU, fun p hp => by cases hp⟩, fun h => absurd (by omega) h⟩
  have hgW := hh _ (List.mem_cons_self ..)
  have hat : ∀ {cs : Array Value} {m : Nat}, (∀ j, m ≤ j → j < l.length → cs[j * 2]? = some (.int .i64 (l.getD j (0, 0)).1) ∧ cs[j * 2 + 1]? = some (.int .i64 (l.getD j (0, 0)).2)) → ∀ {w' : World} {F' : List (Nat × Obj)}, Owns w' ((gt, .cells cs 53 (0, 0)) :: F') → ∀ j, m ≤ j → j < l.length → (loadVar 53 ⟨gt, j * 2, none⟩).run Try.prog w' = .ok (.agg (edV (l.getD j (0, 0))).toArray) w' :=
    fun {cs} {m} hc {w'} {F'} ho j h1 h2 => ed_load (ho.at_ 0 rfl) (hc j h1 h2).1 (hc j h1 h2).2
  have hc0 : ∀ j, 0 ≤ j → j < l.length → cs0[j * 2]? = some (.int .i64 (l.getD j (0, 0)).1) ∧ cs0[j * 2 + 1]? = some (.int .i64 (l.getD j (0, 0)).2) := fun j _ hj => by
    have hx : ∀ i u, (edsV l)[i]? = some u → cs0[i]? = some u := fun i u hu => by
      rw [← htk0, List.getElem?_take] at hu
      split at hu
      · simpa using hu
      · cases hu
    rw [getD_eq hj]
    exact ⟨hx _ _ (by have := flat_at edV 2 (fun _ => rfl) l j hj 0 (by omega); rw [Nat.add_zero] at this; exact this), hx _ _ (flat_at edV 2 (fun _ => rfl) l j hj 1 (by omega))⟩
  have hmx : l.length ≤ 1000000000 := hl9
  simp (disch := omega) only [PX, BX]
  refine ⟨fun h2 => ?_, fun h2 => ?_⟩
  · have hcp : cpt l l.length = l := by
      rcases Nat.lt_or_ge l.length 1 with h | h
      · have : l = [] := List.eq_nil_of_length_eq_zero (by omega)
        rw [this]; rfl
      · obtain ⟨e, rfl⟩ : ∃ e, l = [e] := List.length_eq_one_iff.1 (by omega)
        rfl
    rw [hcp]
    exact ⟨_, hr, hO, hU, hh⟩
  refine st_loop (fun vs w' => ∃ k : Nat, 1 ≤ k ∧ k ≤ l.length ∧ vs.getD 3 undef = .int .i64 k ∧ Owns w' ((gt, .cells cs0 53 (0, 0)) :: F) ∧ Upd W w' ks ∧ cpt l k = l.take k) (fun vs _ => l.length - (intOf (vs.getD 3 undef)).toNat) ⟨1, Nat.le_refl _, by omega, rfl, hO, hU, ?_⟩ ?_
  · obtain ⟨e, t, rfl⟩ := List.exists_cons_of_ne_nil (show l ≠ [] by intro h; subst h; simp at h2)
    rfl
  rintro dv vs w1 - ⟨k, hk1, hk, e3, hO1, hU1, hpre⟩
  simp (disch := omega) only [e3, PX, BX]
  refine ⟨fun hlt => ?_, fun hge => ?_⟩
  rotate_left
  · obtain rfl : k = l.length := by omega
    rw [List.take_length] at hpre
    rw [hpre]
    exact ⟨_, hr, hO1, hU1, hh⟩
  have hk' : k < l.length := by omega
  have hOd := hO1.ext (Upd.drew w1 [])
  have hUd := hU1.then_ (Upd.drew w1 []) (fun x hx => by cases hx)
  let S : World → Prop := fun w' => Owns w' ((gt, .cells cs0 53 (0, 0)) :: F)
  have hne : ∃ w', S w' := ⟨_, hOd⟩
  have e : ((k : Nat) : Int) - 1 = ((k - 1 : Nat) : Int) := by omega
  refine st_draw S hOd ?_
  simp (disch := first | exact hne | assumption | omega) only [SX, add_mk, Nat.zero_add]
  rw [stepS_run hne fun w' hs => run_sLoad (hat hc0 hs k (Nat.zero_le _) hk')]
  simp (disch := first | exact hne | assumption | omega) only [SX, add_mk, Nat.zero_add, w64, e]
  rw [stepS_run hne fun w' hs => run_sLoad (hat hc0 hs (k - 1) (Nat.zero_le _) (by omega))]
  rw [stepS_run hne fun w' hs => eq_ed _ _ _ _ _, bool_dec]
  refine ⟨fun heq => ?_, fun hneq => ?_⟩
  rotate_left
  · refine ⟨⟨k + 1, by omega, by omega, rfl, hOd, hUd, ?_⟩, ?_⟩
    · rw [List.take_succ_eq_append_getElem hk', ← getD_eq hk', ← hpre]
      conv => lhs; unfold cpt
      rw [if_pos (by unfold newB; rw [decide_eq_false hneq]; simp)]
    · simp only [List.getD_cons_succ, List.getD_cons_zero, intOf]; omega
  -- one that stands twice: the others close up
  rw [step_run (run_sliceFrom (i := ((k : Nat) : Int)) u49 sz53 (by omega) (by omega) hcap), show ((k : Nat) : Int).toNat = k by omega, if_neg (by omega)]
  simp only [Option.map_some, add_mk, Nat.zero_add]
  have hfirst : cpt l (k + 1) = l.take k := by
    rw [← hpre]
    conv => lhs; unfold cpt
    rw [if_neg (by unfold newB; rw [decide_eq_true heq]; simp; omega)]
  have hedl : ∀ {m : Nat} {cs : Array Value} {q : List Ed}, cs.toList.take (m * 2) = edsV q → q.length = m → cs.size = cap * 2 → m < cap → ∀ x : Ed, ((cs.toList.take (m * 2) ++ edV x ++ cs.toList.drop (m * 2 + 2)).toArray).toList.take ((m + 1) * 2) = edsV (q ++ [x]) := fun {m} {cs} {q} h1 h2 h3 h4 x => by
    have hlen : (cs.toList.take (m * 2)).length = m * 2 := by rw [List.length_take, Array.length_toList]; omega
    rw [List.take_append_of_le_length (by rw [List.length_append, hlen]; show (m + 1) * 2 ≤ m * 2 + 2; omega), List.take_of_length_le (by rw [List.length_append, hlen]; show m * 2 + 2 ≤ (m + 1) * 2; omega), h1]
    simp [edsV]
  refine st_loop (fun vs w' => ∃ (k2 m : Nat) (cs : Array Value), 1 ≤ k2 ∧ k2 ≤ l.length - k ∧ vs.getD 1 undef = .int .i64 k2 ∧ vs.getD 0 undef = .int .i64 m ∧ m = (cpt l (k + k2)).length ∧ m + 1 ≤ k + k2 ∧ cs.size = cap * 2 ∧ cs.toList.take (m * 2) = edsV (cpt l (k + k2)) ∧ (∀ j, k + k2 - 1 ≤ j → j < l.length → cs[j * 2]? = some (.int .i64 (l.getD j (0, 0)).1) ∧ cs[j * 2 + 1]? = some (.int .i64 (l.getD j (0, 0)).2)) ∧
      Owns w' ((gt, .cells cs 53 (0, 0)) :: F) ∧ Upd W w' ks) (fun vs _ => l.length - (intOf (vs.getD 1 undef)).toNat) ⟨1, k, cs0, Nat.le_refl _, by omega, rfl, rfl, by rw [hfirst, List.length_take]; omega, Nat.le_refl _, hsz0, ?_, fun j _ hj => hc0 j (Nat.zero_le _) hj, hOd, hUd⟩ ?_
  · rw [hfirst]
    have := congrArg (List.take (k * 2)) htk0
    rw [List.take_take, Nat.min_eq_left (by omega)] at this
    rw [this]
    conv => lhs; rw [← List.take_append_drop k l]
    unfold edsV
    rw [List.flatMap_append, List.take_append_of_le_length (by rw [flat_len edV 2 (fun _ => rfl), List.length_take]; omega), List.take_of_length_le (by rw [flat_len edV 2 (fun _ => rfl), List.length_take]; omega)]
  rintro dv2 vs2 w2 - ⟨k2, m, cs, hk21, hk2, f1, f0, hm, hmk, hcs, htk, hrest, hO2, hU2⟩
  simp (disch := omega) only [f0, f1, PX, BX]
  refine ⟨fun hlt2 => ?_, fun hge2 => ?_⟩
  · have hj : k + k2 < l.length := by omega
    have hOd2 := hO2.ext (Upd.drew w2 [])
    have hUd2 := hU2.then_ (Upd.drew w2 []) (fun x hx => by cases hx)
    let S2 : World → Prop := fun w' => Owns w' ((gt, .cells cs 53 (0, 0)) :: F)
    have hne2 : ∃ w', S2 w' := ⟨_, hOd2⟩
    have e2 : ((k2 : Nat) : Int) - 1 = ((k2 - 1 : Nat) : Int) := by omega
    have ea : k * 2 + k2 * 2 = (k + k2) * 2 := by omega
    have eb : k * 2 + (k2 - 1) * 2 = (k + k2 - 1) * 2 := by omega
    refine st_draw S2 hOd2 ?_
    simp (disch := first | exact hne2 | assumption | omega) only [SX, add_mk, ea]
    rw [stepS_run hne2 fun w' hs => run_sLoad (hat hrest hs (k + k2) (by omega) hj)]
    simp (disch := first | exact hne2 | assumption | omega) only [SX, add_mk, w64, e2, eb]
    rw [stepS_run hne2 fun w' hs => run_sLoad (hat hrest hs (k + k2 - 1) (by omega) (by omega))]
    rw [stepS_run hne2 fun w' hs => ne_ed _ _ _ _ _, bool_var]
    have hnew : newB l (k + k2) = !decide (l.getD (k + k2) (0, 0) = l.getD (k + k2 - 1) (0, 0)) := by unfold newB; rw [decide_eq_false (by omega), Bool.false_or]
    refine ⟨fun hdf => ?_, fun hsm => ?_⟩
    · have hcp : cpt l (k + (k2 + 1)) = cpt l (k + k2) ++ [l.getD (k + k2) (0, 0)] := by
        rw [show k + (k2 + 1) = (k + k2) + 1 by omega]
        conv => lhs; unfold cpt
        rw [if_pos (by rw [hnew]; exact hdf)]
      simp (disch := omega) only [PX, add_mk, ea]
      rw [step_run (run_sLoad (hat hrest hOd2 (k + k2) (by omega) hj))]
      simp (disch := omega) only [PX, add_mk, Nat.zero_add]
      refine st_storeN (vs := edV (l.getD (k + k2) (0, 0))) (by rw [sz53]; rfl) hUd2 hOd2 0 rfl (by rw [hcs]; show m * 2 + 2 ≤ cap * 2; omega) (fun u hu => by simp [edV] at hu; rcases hu with rfl | rfl <;> rfl) hgW ?_
      intro w3 hU3 hO3
      have hO3 : Owns w3 ((gt, .cells (cs.toList.take (m * 2) ++ edV (l.getD (k + k2) (0, 0)) ++ cs.toList.drop (m * 2 + 2)).toArray 53 (0, 0)) :: F) := hO3
      have hsz3 : ((cs.toList.take (m * 2) ++ edV (l.getD (k + k2) (0, 0)) ++ cs.toList.drop (m * 2 + 2)).toArray).size = cap * 2 := by
        simp only [List.size_toArray, List.length_append, List.length_take, List.length_drop, Array.length_toList, edV, List.length_cons, List.length_nil]; omega
      unfold api_Edge_k3
      simp (disch := omega) only [f1, PX, w64]
      refine ⟨⟨k2 + 1, m + 1, _, by omega, by omega, rfl, rfl, by rw [hcp, List.length_append, List.length_singleton]; omega, by omega, hsz3, by rw [hcp]; exact hedl htk hm.symm hcs (by omega) _, fun j hj1 hj2 => ?_, hO3, hU3⟩, ?_⟩
      · have hge : ∀ i, m * 2 + 2 ≤ i → (cs.toList.take (m * 2) ++ edV (l.getD (k + k2) (0, 0)) ++ cs.toList.drop (m * 2 + 2)).toArray[i]? = cs[i]? := fun i hi => by
          have hlen : (cs.toList.take (m * 2) ++ edV (l.getD (k + k2) (0, 0))).length = m * 2 + 2 := by
            rw [List.length_append, List.length_take, Array.length_toList]; show min (m * 2) cs.size + 2 = _; omega
          rw [List.getElem?_toArray, List.getElem?_append_right (by omega), hlen, List.getElem?_drop, show m * 2 + 2 + (i - (m * 2 + 2)) = i by omega]
          simp
        rw [hge _ (by omega), hge _ (by omega)]
        exact hrest j (by omega) hj2
      · simp only [List.getD_cons_succ, List.getD_cons_zero, intOf]; omega
    · have hcp : cpt l (k + (k2 + 1)) = cpt l (k + k2) := by
        rw [show k + (k2 + 1) = (k + k2) + 1 by omega]
        conv => lhs; unfold cpt
        rw [if_neg (by rw [hnew, hsm]; exact Bool.false_ne_true)]
      unfold api_Edge_k3
      simp (disch := omega) only [f1, PX, w64]
      refine ⟨⟨k2 + 1, m, cs, by omega, by omega, rfl, rfl, by rw [hcp]; exact hm, by omega, hcs, by rw [hcp]; exact htk, fun j hj1 hj2 => hrest j (by omega) hj2, hOd2, hUd2⟩, ?_⟩
      simp only [List.getD_cons_succ, List.getD_cons_zero, intOf]; omega
  · obtain rfl : k2 = l.length - k := by omega
    rw [show k + (l.length - k) = l.length by omega] at hm htk hmk
    unfold api_Edge_k2
    rw [step_run (run_sliceFrom (i := ((m : Nat) : Int)) u49 sz53 (by omega) (by omega) hcap), show ((m : Nat) : Int).toNat = m by omega, if_neg (by omega)]
    simp only [Option.map_some, add_mk, Nat.zero_add]
    refine st_clearE hU2 hO2 0 rfl (by rw [hcs]; omega) (by omega) hgW ?_
    intro w3 hU3 hO3
    rw [step_run (run_sliceTo (i := ((m : Nat) : Int)) u49 sz53 (by omega) (by omega)), show ((m : Nat) : Int).toNat = m by omega, if_neg (by omega)]
    refine ⟨_, ⟨by rw [edsV_len], .inr ⟨gt, cap, _, ?_, rfl, by omega, hmax, ?_, ?_⟩⟩, hO3, hU3, fun p hp => ?_⟩
    · rw [← hm]; simp [Addr.add]
    · simp [hcs]; omega
    · rw [← hm]
      simp only [List.append_assoc]
      rw [List.take_append_of_le_length (by simp [hcs]; omega), List.take_take, Nat.min_self]
      exact htk
    · rw [List.mem_singleton] at hp; subst hp; exact hgW
end
end Go.Proofs.Ytakifgecgmdjcaa
