/- Locks: Ask, whole. -/
import Derived.Test.YtakifgecgmdjcaaLkH
namespace Go.Proofs.Ytakifgecgmdjcaa
open Go Xf Go.RowKit
set_option linter.unusedVariables false
set_option linter.unusedSimpArgs false
set_option maxRecDepth 100000

section
variable {W w w' : World} {ks : List Nat} {F G : List (Nat × Obj)} {T : Tb} {g : Nat} {K : Value → World → Prop}
theorem st_tmakeMap {t : TypeId} (h : TbAt W ks F T g w) (hk : ∀ b w', TbAt W ks ((b, .map #[] 0) :: F) T g w' → W.heap.size ≤ b → K (.map (some b)) w') : (std Try.prog).step (sMakeMap t none) w K := by
  have hrun : (sMakeMap t none).run Try.prog w = .ok (.value (.map (some w.heap.size))) (w.alloc (.map #[] 0)) := by
    unfold sMakeMap
    rw [run_sV]
    simp [Instr.makeMap, newObj, Sem.run_bind, Sem.run]
  rw [step_run hrun]
  exact hk _ _ (h.add _).1 (h.add (.map #[] 0)).2
theorem ze_want : (Try.prog.info? 30).bind (·.zero) = some (.agg #[.string ⟨#[]⟩, .int .i64 0]) := ze30
theorem Ask_spec (h : TbAt W ks F T g w) (txn : Int) (v : Wt) (hsm : ∀ q, aGet T.names v.name = some q → smallN q.2) (hlen : v.name.length ≤ 1000000) :
    CallsR Try.prog 9 #[.pointer (some ⟨g, 0, none⟩), .int .i64 txn, wtV v] w fun u w' => ∃ new, u = askV (askT T new txn v).2.1 (askT T new txn v).2.2 ∧ TbAt W ks F (askT T new txn v).1 g w' := by
  apply lock_Table_Ask_sound
  unfold lock_Table_Ask_x
  refine st_tbox h ?_
  intro b w1 h1 hb
  have h1 : TbAt W ks (wtBx b v :: F) T g w1 := h1
  have fin : ∀ {w' : World} {T' : Tb}, TbAt W ks (wtBx b v :: F) T' g w' → TbAt W ks F T' g w' := fun hh => hh.weak (List.sublist_cons_self ..)
  obtain ⟨b0, b1⟩ := wt_cells (h1.at_ (List.mem_cons_self ..))
  have bad : ∀ w' : World, TbAt W ks (wtBx b v :: F) T g w' → ¬ argsOk txn v → (fun u w' => ∃ new, u = askV (askT T new txn v).2.1 (askT T new txn v).2.2 ∧ TbAt W ks F (askT T new txn v).1 g w') (.tuple #[.bool false, .int .i64 1]) w' := fun w' hh hno => ⟨0, by unfold askT; rw [if_neg hno]; exact ⟨rfl, fin hh⟩⟩
  unfold lock_Table_Ask_k1
  simp (disch := first | assumption | omega) only [PX, BX, LX, add_mk, Nat.reduceAdd, size_mk]
  refine ⟨fun hlt => bad _ h1 fun hok => ?_, fun h1t => ⟨fun hlt => bad _ h1 fun hok => ?_, fun h1n => ⟨fun hlt => bad _ h1 fun hok => ?_, fun h2n => ?_⟩⟩⟩
  · unfold argsOk at hok; omega
  · unfold argsOk at hok; omega
  · unfold argsOk at hok; omega
  refine st_call (Known_spec w1 v.mode) ?_
  rintro _ w2 ⟨rfl, rfl⟩
  simp (disch := first | assumption | omega) only [PX, BX, LX, add_mk, Nat.reduceAdd]
  refine ⟨fun hkn => ⟨fun h0 => bad _ h1 fun hok => ?_, fun h0 => ?_⟩, fun hkn => bad _ h1 fun hok => ?_⟩
  · unfold argsOk at hok; omega
  rotate_left
  · unfold argsOk at hok; omega
  have hok : argsOk txn v := by unfold argsOk; omega
  have hA : ∀ new, (aGet T.waits txn).isSome = true → askT T new txn v = (T, false, 10) := fun new hh => by unfold askT; rw [if_pos hok, if_pos hh]
  have hB : ∀ new, (aGet T.waits txn).isSome = false → askT T new txn v = ((askAt T ((aGet T.names v.name).getD (new, noNm)) txn v).1, (askAt T ((aGet T.names v.name).getD (new, noNm)) txn v).2, 0) := fun new hh => by unfold askT; rw [if_pos hok, if_neg (by rw [hh]; exact Bool.false_ne_true)]
  obtain ⟨bn, bw, on, ow, c0, c1, -, -, hw, hwm, -⟩ := h1.look
  simp (disch := first | assumption | omega) only [PX, BX, LX, add_mk, Nat.reduceAdd]
  rw [step_run (run_lookup uWaits keyI_ok ze_want hw hwm txn true), if_pos rfl, waits_get]
  simp (disch := first | assumption | omega) only [PX]
  refine st_talloc ze_want h1 ?_
  intro b2 w3 h3 hb2
  refine st_tstoreN (vs := [strV ((aGet T.waits txn).getD ⟨[], 0⟩).name, .int .i64 ((aGet T.waits txn).getD ⟨[], 0⟩).mode]) (by rw [sz30]; rfl) h3 rfl (by simp [Value.oneCell']) (.inr hb2) ?_
  intro w4 h4
  have h4 : TbAt W ks (wtBx b v :: F) T g w4 := h4.weak (List.sublist_cons_self ..)
  rw [bool_var]
  refine ⟨fun his => ?_, fun his => ?_⟩
  · refine ⟨0, ?_⟩
    rw [hA 0 his]; exact ⟨rfl, fin h4⟩
  have h5 := h4.upd (Upd.drew w4 [])
  obtain ⟨bn, bw, on, ow, c0, c1, hn, hnm, hw, hwm, hg⟩ := h5.look
  let S : World → Prop := fun w' => w'.heap[g]? = some (tbO bn bw) ∧ w'.heap[b]? = some (wtBx b v).2
  have hS : S w4.drew := ⟨hg, h5.at_ (List.mem_cons_self ..)⟩
  have hne : ∃ w', S w' := ⟨_, hS⟩
  have e0 : ∀ w', S w' → w'.cell? ⟨g, 0, none⟩ = some (.map (some bn)) := fun w' hs => (cell_at hs.1).trans rfl
  have e1 : ∀ w', S w' → w'.cell? ⟨b, 0, none⟩ = some (strV v.name) := fun w' hs => (wt_cells hs.2).1
  refine st_draw S hS ?_
  simp (disch := first | exact hne | assumption | omega) only [SX, SLX, add_mk, Nat.reduceAdd]
  rw [step_run (run_lookup (ve := ptV) (z := .pointer none) uNames strV_ok ze62 hn hnm v.name false), if_neg Bool.false_ne_true, names_get]
  refine st_keepT (fun _ => True) trivial ?_
  cases hq : aGet T.names v.name with
  | some q =>
    obtain ⟨gn, n⟩ := q
    simp (disch := first | assumption | omega) only [PX, BX]
    refine Ask_k2 h5 hq (hsm _ hq) ?_
    intro w' h'
    refine ⟨gn, ?_⟩
    rw [hB gn his, hq]
    exact ⟨rfl, fin h'⟩
  | none =>
    simp (disch := first | assumption | omega) only [PX, BX]
    refine st_tmakeMap h5 ?_
    intro bh w6 h6 hbh
    rw [step_run (build_nm _ _)]
    refine st_tbox h6 ?_
    intro gn w7 h7 hgn
    have h7 := h7.upd (Upd.drew w7 [])
    obtain ⟨bn, bw, on, ow, c0, c1, hn, hnm, hw, hwm, hg⟩ := h7.look
    let S : World → Prop := fun w' => w'.heap[g]? = some (tbO bn bw) ∧ w'.heap[b]? = some (wtBx b v).2
    have hS : S w7.drew := ⟨hg, h7.at_ (List.mem_cons_of_mem _ (List.mem_cons_of_mem _ (List.mem_cons_self ..)))⟩
    have hne : ∃ w', S w' := ⟨_, hS⟩
    have e0 : ∀ w', S w' → w'.cell? ⟨g, 0, none⟩ = some (.map (some bn)) := fun w' hs => (cell_at hs.1).trans rfl
    have e1 : ∀ w', S w' → w'.cell? ⟨b, 0, none⟩ = some (strV v.name) := fun w' hs => (wt_cells hs.2).1
    refine st_draw S hS ?_
    simp (disch := first | exact hne | assumption | omega) only [SX, SLX, add_mk, Nat.reduceAdd]
    refine st_namesNew h7 c0 hq hgn hbh ?_
    intro w8 h8
    refine st_keepT (fun _ => True) trivial ?_
    refine Ask_k2 h8 (gn := gn) (n := noNm) (by rw [putN, aGet_aSet, if_pos rfl]) ⟨by simp [noNm], by simp [noNm]⟩ ?_
    intro w' h'
    have key : ∀ x, askAt (putN T v.name (gn, noNm)) x txn v = askAt T x txn v := fun x => by
      unfold askAt putN
      simp only [aSet_aSet]
    rw [key] at h'
    refine ⟨gn, ?_⟩
    rw [hB gn his, hq, key]
    exact ⟨rfl, fin h'⟩
end
end Go.Proofs.Ytakifgecgmdjcaa
