/- Locks: LockBeside. -/
import Derived.Test.YtakifgecgmdjcaaLkAB
namespace Go.Proofs.Ytakifgecgmdjcaa
open Go Xf Go.RowKit
set_option linter.unusedVariables false
set_option linter.unusedSimpArgs false
set_option maxRecDepth 100000

theorem toList_mk (l : List UInt8) : (⟨l.toArray⟩ : ByteArray).toList = l := by rw [Go.ByteArray.toList_eq]
section
variable {P : Program} {w : World} {t : TypeId} {x y : Operand} {a b : List UInt8}
theorem r_sgeq : (sBin .geq t x y (strV a) (strV b)).run P w = .ok (.value (.bool (!decide (a < b)))) w := by
  simp only [sBin, run_sV, eqGuard, binOp, Op.stringOp, toList_mk, bytesLess_eq]
  rfl
theorem r_slss : (sBin .lss t x y (strV a) (strV b)).run P w = .ok (.value (.bool (decide (a < b)))) w := by
  simp only [sBin, run_sV, eqGuard, binOp, Op.stringOp, toList_mk, bytesLess_eq]
  rfl
end
theorem both_of {p A B : Prop} (hB : B) (hA : B → p → A) : (p → A) ∧ (¬ p → B) := ⟨hA hB, fun _ => hB⟩
theorem sortS_lt {l : List (List UInt8)} (h : l.Nodup) : (sortS l).Pairwise (· < ·) := by
  have h1 : (sortS l).Pairwise (fun a b => decide (a ≤ b) = true) := List.pairwise_mergeSort (fun a b c h1 h2 => by simp only [decide_eq_true_eq] at *; exact List.le_trans h1 h2) (fun a b => by simp only [Bool.or_eq_true, decide_eq_true_eq]; exact List.le_total a b) l
  have h2 : (sortS l).Nodup := (sortS_perm l).nodup_iff.2 h
  refine (List.pairwise_and_iff.2 ⟨h1, h2⟩).imp fun {a b} ⟨h3, h4⟩ => ?_
  simp only [decide_eq_true_eq] at h3
  exact Classical.byContradiction fun hn => h4 (List.le_antisymm h3 hn)
theorem heldL_names (T : Tb) (x : Int) : ∀ l : List (List UInt8), (heldL T x l).map (·.1) = l.filter fun s => (hasT T x s).isSome
  | [] => rfl
  | s :: l => by
    have ih := heldL_names T x l
    unfold heldL at ih ⊢
    rw [List.filterMap_cons, List.filter_cons]
    cases h : hasT T x s with
    | none => simp [ih]
    | some m => simp [ih]
theorem heldT_lt {T : Tb} (hk : Keys1 T.names) (x : Int) : ((heldT T x).map (·.1)).Pairwise (· < ·) := by
  unfold heldT
  rw [heldL_names]
  exact (sortS_lt hk).sublist List.filter_sublist
theorem hasT_some {T : Tb} {x : Int} {s : List UInt8} {m : Int} (h : hasT T x s = some m) : ∃ q, aGet T.names s = some q ∧ aGet q.2.held x = some m := by
  unfold hasT at h
  cases hg : aGet T.names s with
  | none => rw [hg] at h; cases h
  | some q => rw [hg] at h; exact ⟨q, rfl, h⟩
theorem Good.beside {T : Tb} (h : Good T) {x y : Int} (hne : x ≠ y) : ∀ p ∈ heldT T x, ∀ q ∈ heldT T y, p.1 = q.1 → bes (sureN p.2) (sureN q.2) = true := fun p hp q hq he => by
  obtain ⟨q1, e1, e2⟩ := hasT_some (mem_heldT.1 hp)
  obtain ⟨q2, e3, e4⟩ := hasT_some (mem_heldT.1 hq)
  rw [he, e3] at e1; injection e1 with e1; subst e1
  exact (h.nm' e3).bes x y _ _ e2 e4 hne
section
variable {W w w' : World} {F G : List (Nat × Obj)} {T : Tb} {g : Nat} {K : Value → World → Prop}
/-- one's locks: rising, real, and none of them what it waits for -/
theorem Beside_in {B : Nat} {v28 v12 v16 : Value} {b7 : Nat} {x : Int} {wt : Wt} {is : Bool} {vs : List Value} {again : List Value → World → Prop} {Q : Value → World → Prop} (hfine : Fine T B) (hB5 : B ≤ 500) (hR : RdS w heV 2 v28 (heldT T x)) (hb7 : w.heap[b7]? = some (wtBx b7 wt).2) (his : is = true → aGet T.waits x = some wt)
    (hk : ∀ w', Upd w w' [] → flotillalaw13_LockBeside_k3 (std Try.prog) v12 v16 vs again v28 w' Q) :
    (std Try.prog).loop [.int .i64 0] w fun dv_3 vs_3 w again_3 =>
    (std Try.prog).step (sBuiltin .len #[25] 3 [false] [v28]) w fun v40_1 w =>
    (std Try.prog).step (sBin .lss 3 (.tmp 38) (.tmp 40) (vs_3.getD 0 undef) v40_1) w fun v41_1 w =>
    (std Try.prog).bool v41_1
    ((std Try.prog).draw w fun S_1 w =>
    (std Try.prog).stepS S_1 (sBin .gtr 3 (.tmp 44) (.const (.int .i64 0)) (vs_3.getD 0 undef) (.int .i64 0)) fun v45_1 =>
    (std Try.prog).bool v45_1
    ((std Try.prog).stepS S_1 (sBin .sub 3 (.tmp 48) (.const (.int .i64 1)) (vs_3.getD 0 undef) (.int .i64 1)) fun v49_1 =>
    (std Try.prog).stepS S_1 (sIndexAddr 25 v28 v49_1) fun v50_1 =>
    (std Try.prog).stepS S_1 (sFieldAddr 38 v50_1 0) fun v51_1 =>
    (std Try.prog).stepS S_1 (sLoad 9 v51_1) fun v52_1 =>
    (std Try.prog).stepS S_1 (sIndexAddr 25 v28 (vs_3.getD 0 undef)) fun v55_1 =>
    (std Try.prog).stepS S_1 (sFieldAddr 38 v55_1 0) fun v56_1 =>
    (std Try.prog).stepS S_1 (sLoad 9 v56_1) fun v57_1 =>
    (std Try.prog).stepS S_1 (sBin .geq 9 (.tmp 52) (.tmp 57) v52_1 v57_1) fun v58_1 =>
    (std Try.prog).bool v58_1
    (flotillalaw13_LockBeside_k5 (std Try.prog) w Q)
    ((std Try.prog).stepS S_1 (sIndexAddr 25 v28 (vs_3.getD 0 undef)) fun v63_1 =>
    (std Try.prog).stepS S_1 (sFieldAddr 38 v63_1 1) fun v64_1 =>
    (std Try.prog).stepS S_1 (sLoad 28 v64_1) fun v65_1 =>
    (std Try.prog).stepS S_1 (sBin .eql 28 (.tmp 65) (.const (.int .i64 0)) v65_1 (.int .i64 0)) fun v66_1 =>
    (std Try.prog).bool v66_1
    (flotillalaw13_LockBeside_k5 (std Try.prog) w Q)
    ((std Try.prog).bool (.bool is)
    ((std Try.prog).stepS S_1 (sFieldAddr 30 (.pointer (some ⟨b7, 0, none⟩)) 0) fun v71_1 =>
    (std Try.prog).stepS S_1 (sLoad 9 v71_1) fun v72_1 =>
    (std Try.prog).stepS S_1 (sIndexAddr 25 v28 (vs_3.getD 0 undef)) fun v75_1 =>
    (std Try.prog).stepS S_1 (sFieldAddr 38 v75_1 0) fun v76_1 =>
    (std Try.prog).stepS S_1 (sLoad 9 v76_1) fun v77_1 =>
    (std Try.prog).stepS S_1 (sBin .eql 9 (.tmp 72) (.tmp 77) v72_1 v77_1) fun v78_1 =>
    (std Try.prog).bool v78_1
    ((std Try.prog).stepS S_1 (sIndexAddr 25 v28 (vs_3.getD 0 undef)) fun v83_1 =>
    (std Try.prog).stepS S_1 (sFieldAddr 38 v83_1 1) fun v84_1 =>
    (std Try.prog).stepS S_1 (sLoad 28 v84_1) fun v85_1 =>
    (std Try.prog).stepS S_1 (sFieldAddr 30 (.pointer (some ⟨b7, 0, none⟩)) 1) fun v86_1 =>
    (std Try.prog).stepS S_1 (sLoad 28 v86_1) fun v87_1 =>
    (std Try.prog).calls 12 #[v85_1, v87_1] w fun v88_1 w =>
    (std Try.prog).keepT w fun S_2 =>
    flotillalaw13_LockBeside_k6 (std Try.prog) vs_3 again_3 v88_1 w Q)
    (flotillalaw13_LockBeside_k7 (std Try.prog) vs_3 again_3 w Q))
    (flotillalaw13_LockBeside_k7 (std Try.prog) vs_3 again_3 w Q))))
    ((std Try.prog).stepS S_1 (sIndexAddr 25 v28 (vs_3.getD 0 undef)) fun v63_2 =>
    (std Try.prog).stepS S_1 (sFieldAddr 38 v63_2 1) fun v64_2 =>
    (std Try.prog).stepS S_1 (sLoad 28 v64_2) fun v65_2 =>
    (std Try.prog).stepS S_1 (sBin .eql 28 (.tmp 65) (.const (.int .i64 0)) v65_2 (.int .i64 0)) fun v66_2 =>
    (std Try.prog).bool v66_2
    (flotillalaw13_LockBeside_k5 (std Try.prog) w Q)
    ((std Try.prog).bool (.bool is)
    ((std Try.prog).stepS S_1 (sFieldAddr 30 (.pointer (some ⟨b7, 0, none⟩)) 0) fun v71_2 =>
    (std Try.prog).stepS S_1 (sLoad 9 v71_2) fun v72_2 =>
    (std Try.prog).stepS S_1 (sIndexAddr 25 v28 (vs_3.getD 0 undef)) fun v75_2 =>
    (std Try.prog).stepS S_1 (sFieldAddr 38 v75_2 0) fun v76_2 =>
    (std Try.prog).stepS S_1 (sLoad 9 v76_2) fun v77_2 =>
    (std Try.prog).stepS S_1 (sBin .eql 9 (.tmp 72) (.tmp 77) v72_2 v77_2) fun v78_2 =>
    (std Try.prog).bool v78_2
    ((std Try.prog).stepS S_1 (sIndexAddr 25 v28 (vs_3.getD 0 undef)) fun v83_2 =>
    (std Try.prog).stepS S_1 (sFieldAddr 38 v83_2 1) fun v84_2 =>
    (std Try.prog).stepS S_1 (sLoad 28 v84_2) fun v85_2 =>
    (std Try.prog).stepS S_1 (sFieldAddr 30 (.pointer (some ⟨b7, 0, none⟩)) 1) fun v86_2 =>
    (std Try.prog).stepS S_1 (sLoad 28 v86_2) fun v87_2 =>
    (std Try.prog).calls 12 #[v85_2, v87_2] w fun v88_2 w =>
    (std Try.prog).keepT w fun S_3 =>
    flotillalaw13_LockBeside_k6 (std Try.prog) vs_3 again_3 v88_2 w Q)
    (flotillalaw13_LockBeside_k7 (std Try.prog) vs_3 again_3 w Q))
    (flotillalaw13_LockBeside_k7 (std Try.prog) vs_3 again_3 w Q))))
    (flotillalaw13_LockBeside_k3 (std Try.prog) v12 v16 vs again v28 w Q) := by
  have hlt := heldT_lt hfine.ok.keys x
  have hmem : ∀ p ∈ heldT T x, hasT T x p.1 = some p.2 := fun p hp => mem_heldT.1 hp
  have hlen := heldT_len hfine.ok x
  have hmode : ∀ p ∈ heldT T x, p.2 ≠ 0 ∧ (is = true → wt.name = p.1 → cov (sureN p.2) (sureN wt.mode) = false) := fun p hp => by
    obtain ⟨q, e1, e2⟩ := hasT_some (hmem p hp)
    obtain ⟨h1, h2, h3, h4⟩ := (hfine.good.nm' e1).held1 x p.2 e2
    refine ⟨by omega, fun hi hn => ?_⟩
    obtain ⟨q', f1, f2, f3⟩ := hfine.good.wait (his hi)
    rw [hn, e1] at f1; injection f1 with f1; subst f1
    exact f3.2.2.2.2 p.2 e2
  generalize heldT T x = l at hR hlt hlen hmode
  obtain ⟨A, c, rfl⟩ := he_len hR
  have hwb := wt_cells hb7
  refine st_loop (fun vs w' => ∃ k : Nat, k ≤ l.length ∧ vs.getD 0 undef = .int .i64 k ∧ Upd w w' []) (fun vs _ => l.length - (intOf (vs.getD 0 undef)).toNat) ⟨0, Nat.zero_le _, rfl, Upd.refl _ _⟩ ?_
  rintro dv vs3 w1 - ⟨k, hk', f0, hU1⟩
  simp (disch := first | assumption | omega) only [f0, PX, BX]
  refine ⟨fun hltk => ?_, fun hgek => hk w1 hU1⟩
  have hk2 : k < l.length := by omega
  obtain ⟨a, c', he1, hc⟩ := he_at hR hk2
  injection he1 with q1 q2 q3
  subst q1
  have hUd := hU1.trans (Upd.drew w1 [])
  have hne : ∃ w', (fun w' => Upd w w' []) w' := ⟨_, hUd⟩
  refine st_draw (fun w' => Upd w w' []) hUd ?_
  have g0 : ∀ w', Upd w w' [] → w'.cell? (a.add (k * 2 + 0)) = some (strV l[k].1) := fun w' h => (hc w' h).1
  have g1 : ∀ w', Upd w w' [] → w'.cell? (a.add (k * 2 + 1)) = some (.int .i64 l[k].2) := fun w' h => (hc w' h).2
  have w0 : ∀ w', Upd w w' [] → w'.cell? ⟨b7, 0, none⟩ = some (strV wt.name) := fun w' h => by rw [h.cell (lt_of_some hb7) (by simp)]; exact hwb.1
  have w1' : ∀ w', Upd w w' [] → w'.cell? ⟨b7, 1, none⟩ = some (.int .i64 wt.mode) := fun w' h => by rw [h.cell (lt_of_some hb7) (by simp)]; exact hwb.2
  have go : ∀ {w'}, Upd w w' [] → flotillalaw13_LockBeside_k4 (std Try.prog) vs3 (fun vs' w' => (∃ k : Nat, k ≤ l.length ∧ vs'.getD 0 undef = .int .i64 k ∧ Upd w w' []) ∧ l.length - (intOf (vs'.getD 0 undef)).toNat < l.length - (intOf (Value.int .i64 k)).toNat) w' Q := fun {w'} hU => by
    unfold flotillalaw13_LockBeside_k4
    simp (disch := omega) only [f0, PX, w64]
    refine ⟨⟨k + 1, by omega, rfl, hU⟩, ?_⟩
    simp only [List.getD_cons_zero, intOf]; omega
  obtain ⟨hm1, hm2⟩ := hmode _ (List.getElem_mem hk2)
  simp (disch := first | exact hne | assumption | omega) only [SX]
  rw [bool_dec]
  refine both_of ?_ ?_
  · simp (disch := first | exact hne | assumption | omega) only [SX, SLX, add_add', mk_inj, add_mk, Nat.reduceAdd]
    rw [bool_dec]
    refine ⟨fun h => absurd h hm1, fun _ => ?_⟩
    rw [bool_var]
    refine ⟨fun hi => ?_, fun hi => ?_⟩
    · rw [bool_dec]
      refine ⟨fun hn => ?_, fun hn => ?_⟩
      · refine st_call (rCovers_spec _ _ _) ?_
        rintro _ w4 ⟨rfl, rfl⟩
        refine st_keepT (fun _ => True) trivial ?_
        rw [hm2 hi hn]
        unfold flotillalaw13_LockBeside_k6
        rw [bool_var]
        exact ⟨fun h => (by cases h), fun _ => go hUd⟩
      · unfold flotillalaw13_LockBeside_k7
        exact go hUd
    · unfold flotillalaw13_LockBeside_k7
      exact go hUd
  · intro hrest hk0
    have hk1 : k - 1 < l.length := by omega
    obtain ⟨a', c'', he1', hc'⟩ := he_at hR hk1
    injection he1' with q1' q2' q3'
    injection q1' with q1'
    subst q1'
    have h0 : ∀ w', Upd w w' [] → w'.cell? (a.add ((k - 1) * 2 + 0)) = some (strV l[k - 1].1) := fun w' h => (hc' w' h).1
    have e : ((k : Nat) : Int) - 1 = ((k - 1 : Nat) : Int) := by omega
    simp (disch := first | exact hne | assumption | omega) only [SX, SLX, add_add', w64, e]
    rw [stepS_run hne fun w' _ => r_sgeq]
    have hlt2 : l[k - 1].1 < l[k].1 := by
      have := List.pairwise_iff_getElem.1 hlt (k - 1) k (by simpa using hk1) (by simpa using hk2) (by omega)
      simpa using this
    rw [decide_eq_true hlt2, Bool.not_true, bool_var]
    refine ⟨fun h => (by cases h), fun _ => ?_⟩
    simp (disch := first | exact hne | assumption | omega) only [SX, SLX, add_add', mk_inj, add_mk, Nat.reduceAdd] at hrest ⊢
    exact hrest
end
end Go.Proofs.Ytakifgecgmdjcaa
