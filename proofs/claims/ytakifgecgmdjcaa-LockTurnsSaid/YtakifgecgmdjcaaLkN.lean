/- Locks: Free, Cancel, Waits, Held. -/
import Derived.Test.YtakifgecgmdjcaaLkM
namespace Go.Proofs.Ytakifgecgmdjcaa
open Go Xf Go.RowKit
set_option linter.unusedVariables false
set_option linter.unusedSimpArgs false
set_option maxRecDepth 100000

abbrev He := List UInt8 × Int
def heV (p : He) : List Value := [strV p.1, .int .i64 p.2]
def hesV (l : List He) : List Value := l.flatMap heV
theorem heV_len (p : He) : (heV p).length = 2 := rfl
theorem hesV_len (l : List He) : (hesV l).length = l.length * 2 := flat_len heV 2 heV_len l
theorem hesV_one (l : List He) : ∀ y ∈ hesV l, y.oneCell' = true := by
  intro y hy
  obtain ⟨p, -, hy⟩ := List.mem_flatMap.1 hy
  simp only [heV, List.mem_cons, List.not_mem_nil, or_false] at hy
  rcases hy with rfl | rfl <;> rfl
theorem build_he (s : List UInt8) (m : Int) (w : World) : (sBuild 38 [(0, strV s), (1, .int .i64 m)]).run Try.prog w = .ok (.value (.agg (heV (s, m)).toArray)) w := by kernel_rfl
theorem row_he (p : He) (w : World) : (sBuildSlice 25 1 [(0, .agg (heV p).toArray)]).run Try.prog w = .ok (.value (.slice (some ⟨w.heap.size, 0, none⟩) 1 1)) (w.alloc (.cells (heV p).toArray 38)) := by kernel_rfl
theorem info_he : ∃ i, Try.prog.info? 38 = some i ∧ i.zero = some (.agg #[.string ⟨#[]⟩, .int .i64 0]) ∧ i.size = 2 ∧ i.bytes = 24 := inf38
/-- what somebody has on a name -/
def hasT (T : Tb) (x : Int) (s : List UInt8) : Option Int := (aGet T.names s).bind fun q => aGet q.2.held x
def heldL (T : Tb) (x : Int) (l : List (List UInt8)) : List He := l.filterMap fun s => (hasT T x s).map fun m => (s, m)
def heldT (T : Tb) (x : Int) : List He := heldL T x (sortS (T.names.map (·.1)))

section
variable {W w w' : World} {ks : List Nat} {F G : List (Nat × Obj)} {T : Tb} {g : Nat} {K : Value → World → Prop}
theorem Free_spec {B : Nat} (h : TbAt W ks F T g w) (hok : okT T B) (hB : B ≤ 500) (txn : Int) :
    CallsR Try.prog 10 #[.pointer (some ⟨g, 0, none⟩), .int .i64 txn] w fun u w' => GonePost W ks F (goneT T txn true).2 (goneT T txn true).1 g u w' := by
  apply lock_Table_Free_sound
  unfold lock_Table_Free_x
  exact st_call (gone_spec h hok hB txn true) fun _ _ h => h
theorem Cancel_spec {B : Nat} (h : TbAt W ks F T g w) (hok : okT T B) (hB : B ≤ 500) (txn : Int) :
    CallsR Try.prog 11 #[.pointer (some ⟨g, 0, none⟩), .int .i64 txn] w fun u w' => GonePost W ks F (goneT T txn false).2 (goneT T txn false).1 g u w' := by
  apply lock_Table_Cancel_sound
  unfold lock_Table_Cancel_x
  exact st_call (gone_spec h hok hB txn false) fun _ _ h => h
theorem GonePost.tb {gs : List Gr} {u : Value} (h : GonePost W ks F gs T g u w) : TbAt W ks F T g w := by
  obtain ⟨hl, -, hT, -⟩ := h
  exact hT.weak (List.sublist_append_right _ _)
theorem Waits_spec (h : TbAt W ks F T g w) (x : Int) : CallsR Try.prog 15 #[.pointer (some ⟨g, 0, none⟩), .int .i64 x] w fun u w' => u = .tuple #[wtV ((aGet T.waits x).getD ⟨[], 0⟩), .bool (aGet T.waits x).isSome] ∧ TbAt W ks F T g w' := by
  apply lock_Table_Waits_sound
  unfold lock_Table_Waits_x
  refine st_talloc ze_want h ?_
  intro b w1 h1 hb
  obtain ⟨bn, bw, on, ow, d0, d1, -, -, hw1, hw2, -⟩ := h1.look
  simp (disch := first | assumption | omega) only [PX, BX, LX, add_mk, Nat.reduceAdd]
  rw [step_run (run_lookup uWaits keyI_ok ze_want hw1 hw2 x true), if_pos rfl, waits_get]
  simp (disch := first | assumption | omega) only [PX]
  refine st_talloc ze_want h1 ?_
  intro b2 w2 h2 hb2
  generalize (aGet T.waits x).getD ⟨[], 0⟩ = wt
  refine st_tstoreN (vs := [strV wt.name, .int .i64 wt.mode]) (by rw [sz30]; rfl) h2 rfl (by simp [Value.oneCell']) (.inr hb2) ?_
  intro w3 h3
  have h3 : TbAt W ks (wtBx b2 wt :: (b, .cells (Value.agg #[.string ⟨#[]⟩, .int .i64 0]).cells 30) :: F) T g w3 := h3
  rw [step_run (run_sLoad (wt_load (h3.at_ (List.mem_cons_self ..))))]
  have h3 := h3.permF (List.Perm.swap ..)
  refine st_tstoreN (vs := [strV wt.name, .int .i64 wt.mode]) (by rw [sz30]; rfl) h3 rfl (by simp [Value.oneCell']) (.inr hb) ?_
  intro w4 h4
  have h4 : TbAt W ks (wtBx b wt :: wtBx b2 wt :: F) T g w4 := h4
  refine st_loadR (wt_load (h4.at_ (List.mem_cons_self ..))) ?_
  exact ⟨rfl, h4.weak (.cons _ (.cons _ (List.Sublist.refl _)))⟩
def HeldPost (W : World) (ks : List Nat) (F : List (Nat × Obj)) (l : List He) (T : Tb) (g : Nat) (u : Value) (w' : World) : Prop :=
  ∃ hl, RowH 38 2 u l.length (hesV l) hl ∧ TbAt W ks (hl ++ F) T g w' ∧ ∀ p ∈ hl, p.1 ∈ ks ∨ W.heap.size ≤ p.1
theorem Held_spec {B : Nat} (h : TbAt W ks F T g w) (hok : okT T B) (hB : B ≤ 500) (x : Int) :
    CallsR Try.prog 7 #[.pointer (some ⟨g, 0, none⟩), .int .i64 x] w fun u w' => HeldPost W ks F (heldT T x) T g u w' := by
  apply lock_Table_Held_sound
  unfold lock_Table_Held_x
  obtain ⟨bn, bw, on, ow, d0, d1, -⟩ := h.look
  simp (disch := first | assumption | omega) only [PX, BX, LX, add_mk, Nat.reduceAdd]
  refine st_sorted h hok (by omega) d0 ?_
  intro v hS w3 hrS h3
  have hmem : ∀ s ∈ sortS (T.names.map (·.1)), ∃ q, aGet T.names s = some q := fun s hs => Option.isSome_iff_exists.1 (aGet_keys.2 ((sortS_perm _).mem_iff.1 hs))
  have hll : (sortS (T.names.map (·.1))).length ≤ B := by rw [(sortS_perm _).length_eq, List.length_map]; exact hok.len
  have hgo : heldT T x = heldL T x (sortS (T.names.map (·.1))) := rfl
  generalize sortS (T.names.map (·.1)) = l at hrS hgo hmem hll
  rw [hgo]
  obtain ⟨A, n1, rfl⟩ := RowH.sl' hrS
  simp (disch := first | assumption | omega) only [PX, BX]
  refine st_loop (fun vs w' => ∃ i : Nat, i ≤ l.length ∧ vs.getD 4 undef = .int .i64 i ∧ HeldPost W ks (hS ++ F) (heldL T x (l.take i)) T g (vs.getD 3 undef) w') (fun vs _ => l.length - (intOf (vs.getD 4 undef)).toNat) ⟨0, Nat.zero_le _, rfl, [], by rw [List.take_zero]; exact RowH.nil_ _ _, h3, fun p hp => by cases hp⟩ ?_
  rintro dv vs w4 - ⟨i, hi, e0, hl, hr, hT, hm2⟩
  simp (disch := first | assumption | omega) only [e0, PX, BX]
  refine ⟨fun hlt => ?_, fun hge => ?_⟩
  rotate_left
  · obtain rfl : i = l.length := by omega
    rw [List.take_length] at hr
    exact ⟨hl, hr, hT.weak (List.Sublist.append_left (List.sublist_append_right _ _) _), hm2⟩
  have hi' : i < l.length := by omega
  have hOS : Owns w4 (hS ++ (hl ++ F)) := hT.owns.perm (by
    classical
    refine List.perm_iff_count.2 fun y => ?_
    simp only [List.count_append]
    omega)
  obtain ⟨A', n', hAn, -, -, hx⟩ := hrS.rd hOS
  injection hAn with q1 q2 q3
  subst q1 q3
  obtain ⟨a, rfl, ha⟩ := hx i (strV l[i]) (by simp [hi'])
  simp (disch := first | assumption | omega) only [PX, LX, Nat.mul_one]
  obtain ⟨⟨gn, n⟩, hq⟩ := hmem l[i] (List.getElem_mem hi')
  obtain ⟨bn, bw, on, ow, d0, d1, -⟩ := hT.look
  simp (disch := first | assumption | omega) only [PX, LX, add_mk, Nat.reduceAdd]
  rw [step_run (hT.lookName d0 hq)]
  obtain ⟨bh, oh, vt, vr, c0, c1, c2, hg, hm, hmap, r1, r2⟩ := hT.name hq
  simp (disch := first | assumption | omega) only [PX, LX, add_mk, Nat.reduceAdd]
  rw [step_run (run_lookup uHeld keyI_ok ze28 hm hmap x true), if_pos rfl, modes_get]
  simp (disch := first | assumption | omega) only [PX, LX, add_mk, Nat.reduceAdd]
  have hhas : hasT T x l[i] = aGet n.held x := by unfold hasT; rw [hq]; rfl
  have hsucc : l.take (i + 1) = l.take i ++ [l[i]] := List.take_succ_eq_append_getElem hi'
  have hlen : (heldL T x (l.take i)).length ≤ 500 := by
    have h1 := List.length_filterMap_le (fun s => (hasT T x s).map fun m => (s, m)) (l.take i)
    have h2 := List.length_take_le i l
    unfold heldL; omega
  unfold lock_Table_Held_k2
  rw [bool_var]
  refine ⟨fun his => ?_, fun his => ?_⟩
  · obtain ⟨m, hm'⟩ := Option.isSome_iff_exists.1 his
    rw [hm', Option.getD_some, step_run (build_he _ _ _)]
    obtain ⟨hU, hh, hTb, hO, hmine⟩ := hT
    refine st_newRow (fun w => row_he (l[i], m) w) hU hO ?_
    intro gr w5 hU5 hO5 hgr
    obtain ⟨inf, f1, f2, f3, f4⟩ := info_he
    have hP : Owns w5 (hl ++ ((gr, .cells (heV (l[i], m)).toArray 38 (0, 0)) :: (hh ++ (hS ++ F)))) := hO5.perm (by
      classical
      refine List.perm_iff_count.2 fun y => ?_
      simp only [List.count_cons, List.count_append]
      omega)
    have hrd : Rd w5 2 (.slice (some ⟨gr, 0, none⟩) 1 1) 1 (hesV [(l[i], m)]) := ⟨_, 1, rfl, Nat.le_refl _, hesV_len _, fun j u hu => ⟨_, rfl, cells_read (cs := (heV (l[i], m)).toArray) (hO5.at_ 0 rfl) j u (by simpa [hesV] using hu)⟩⟩
    have hmx : (1000001 : Nat) ≤ maxLen := by decide
    refine st_append u25 f1 f2 f3 f4 rfl (by omega) hr hP hU5 hm2 hrd (hesV_one _) (by omega) (by omega) ?_
    intro v6 w6 h6 hr6 hO6 hU6 hm6
    simp (disch := omega) only [e0, PX, w64]
    refine ⟨⟨i + 1, by omega, rfl, h6, ?_, ⟨hU6, hh, hTb, ?_, hmine⟩, hm6⟩, ?_⟩
    · have e : heldL T x (l.take (i + 1)) = heldL T x (l.take i) ++ [(l[i], m)] := by
        rw [hsucc]; unfold heldL; rw [List.filterMap_append]; simp [hhas, hm']
      rw [e, List.length_append, List.length_singleton]
      have : hesV (heldL T x (l.take i) ++ [(l[i], m)]) = hesV (heldL T x (l.take i)) ++ hesV [(l[i], m)] := by simp [hesV]
      rw [this]; exact hr6
    · refine (hO6.sub (List.Sublist.append_left (.cons _ (List.Sublist.refl _)) _)).perm ?_
      classical
      refine List.perm_iff_count.2 fun y => ?_
      simp only [List.count_append]
      omega
    · simp only [List.getD_cons_succ, List.getD_cons_zero, intOf]; omega
  · have hno : aGet n.held x = none := by
      cases hh : aGet n.held x with
      | none => rfl
      | some y => rw [hh] at his; cases his
    simp (disch := omega) only [e0, PX, w64]
    refine ⟨⟨i + 1, by omega, rfl, hl, ?_, hT, hm2⟩, ?_⟩
    · have e : heldL T x (l.take (i + 1)) = heldL T x (l.take i) := by
        rw [hsucc]; unfold heldL; rw [List.filterMap_append]; simp [hhas, hno]
      rw [e]; exact hr
    · simp only [List.getD_cons_succ, List.getD_cons_zero, intOf]; omega
end
end Go.Proofs.Ytakifgecgmdjcaa
