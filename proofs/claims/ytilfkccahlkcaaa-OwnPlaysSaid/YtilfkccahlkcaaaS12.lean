/- OwnOne: what stands behind each step. -/
import Derived.Test.YtilfkccahlkcaaaT2
namespace Go.Proofs.Ytilfkccahlkcaaa
open Go Xf Go.RowKit
set_option linter.unusedVariables false
set_option linter.unusedSimpArgs false
set_option maxRecDepth 100000

structure Op3 where
  kind : Int
  page : Int
  inst : Int
def opV (o : Op3) : List Value := [.int .i64 o.kind, .int .i64 o.page, .int .i64 o.inst]
theorem opV_of (row : List Value) (h : RowOk [.int .i64, .int .i64, .int .i64] row) : ∃ o, row = opV o ∧ True := by
  obtain ⟨hl, hk⟩ := h
  obtain ⟨_, e0, n0, rfl, w0⟩ := hk 0 _ rfl
  obtain ⟨_, e1, n1, rfl, w1⟩ := hk 1 _ rfl
  obtain ⟨_, e2, n2, rfl, w2⟩ := hk 2 _ rfl
  refine ⟨⟨n0, n1, n2⟩, ?_, trivial⟩
  match row, hl with
  | [a, b, c], _ => simp at e0 e1 e2; subst e0 e1 e2; rfl
theorem op_at {W w : World} {v : Value} {ops : List Op3} (hr : RdS W opV 3 v ops) (hU : Upd W w []) {i : Nat} (hi : i < ops.length) : ∃ a c, v = .slice (some a) ops.length c ∧ ∀ j u, (opV ops[i])[j]? = some u → w.cell? ((a.add (i * 3)).add j) = some u := by
  obtain ⟨A, c, rfl, hm, hrd⟩ := hr
  obtain ⟨a, rfl, hx⟩ := Rd.row (f := opV) (k := 3) (fun _ => rfl) (by omega) hrd hi
  refine ⟨a, c, rfl, fun j u hu => ?_⟩
  rw [add_add']
  have := hx w hU j u hu
  rwa [show ((i : Nat) : Int).toNat = i by omega] at this
/-- o := ops[i] -/
theorem st_op {W w : World} {v : Value} {ops : List Op3} {i : Nat} {h : List (Nat × Obj)} {K : Value → World → Prop} (hr : RdS W opV 3 v ops) (hi : i < ops.length) (hU : Upd W w []) (hO : Owns w h)
    (hk : ∀ g w', Upd W w' [] → Owns w' ((g, .cells #[.int .i64 ops[i].kind, .int .i64 ops[i].page, .int .i64 ops[i].inst] 32 (0, 0)) :: h) → W.heap.size ≤ g → K (.pointer (some ⟨g, 0, none⟩)) w') :
    (std Try.prog).step (sIndexAddr 23 v (.int .i64 (i : Nat))) w fun v49 w => (std Try.prog).step (sLoad 32 v49) w fun v50 w => (std Try.prog).step (sAlloc 32) w fun v12 w => (std Try.prog).step (sStore 32 v12 v50) w fun _ w => K v12 w := by
  obtain ⟨a, c, rfl, hx⟩ := op_at hr hU hi
  rw [step_run (run_idxS u23 sz32 (by omega) (by omega)), show (i : Int).toNat * 3 = i * 3 by omega]
  refine st_loadN (cs := opV ops[i]) ag32 sz32 hx ?_
  refine st_alloc ze32 hU hO ?_
  intro g w4 hU4 hO4 hg
  refine st_storeN (vs := opV ops[i]) (by rw [sz32]; rfl) hU4 hO4 0 rfl (by simp [Value.cells, opV]) (fun u hu => by simp [opV] at hu; rcases hu with rfl | rfl | rfl <;> rfl) (.inr hg) ?_
  intro w5 hU5 hO5
  exact hk g w5 hU5 hO5 hg

theorem serve_count (p : Int) (x : Lf) : (serveL p x).2.length ≤ 2 := by
  unfold serveL
  rw [List.length_append]
  have h1 : ∀ x, (giveL p x).2.length ≤ 1 := fun x => by unfold giveL; split <;> simp
  have h2 : ∀ x, (callL p x).2.length ≤ 1 := fun x => by unfold callL; split <;> simp
  have := h1 x
  have := h2 (giveL p x).1
  omega
theorem need_count (xs : List Lf) (p i : Int) : (needL xs p i).2.1.length ≤ 2 := by
  unfold needL
  split
  · split
    · simp
    · exact serve_count _ _
  · simp
theorem back_count (xs : List Lf) (p i : Int) : (backL xs p i).2.1.length ≤ 2 := by
  unfold backL
  split
  · split
    · exact serve_count _ _
    · simp
  · simp
theorem mend_count (xs : List Lf) (p : Int) : (mendL xs p).2.1.length ≤ 2 := by
  unfold mendL
  split
  · split
    · exact serve_count _ _
    · simp
  · simp

/-- the law's own two rows -/
def FF (gO gL : Nat) (own : List Int) (lost : List Bool) : List (Nat × Obj) := [(gL, .cells (boolsV lost).toArray 30 (0, 0)), (gO, .cells (intsV .i64 own).toArray 29 (0, 0))]
theorem FF_own {gO gL : Nat} {own : List Int} {lost : List Bool} {w : World} (h : Owns w (FF gO gL own lost)) {p : Nat} {x : Int} (hx : own[p]? = some x) : w.cell? ⟨gO, p, none⟩ = some (.int .i64 x) := by
  rw [cell_at (h.at_ 1 rfl)]; simp [intsV, hx]
theorem FF_lost {gO gL : Nat} {own : List Int} {lost : List Bool} {w : World} (h : Owns w (FF gO gL own lost)) {p : Nat} {x : Bool} (hx : lost[p]? = some x) : w.cell? ⟨gL, p, none⟩ = some (.bool x) := by
  rw [cell_at (h.at_ 0 rfl)]; simp [boolsV, hx]

theorem one_k4 {W w : World} {X ho : List (Nat × Obj)} {gb gO gL : Nat} {xs : List Lf} {own : List Int} {os : List Od} {ro : Value} {vs : List Value} {again : List Value → World → Prop} {Q : Value → World → Prop}
    (hB : Bk W (ho ++ (X ++ FF gO gL own (lostA xs))) gb xs w) (hl : own.length = 16) (ht : toldL own os = some (ownA xs)) (hc : os.length ≤ 2) (hr : OrdR ro os ho) (hI : Inv xs) (hgO : W.heap.size ≤ gO)
    (hk : ∀ w', Bk W (FF gO gL (ownA xs) (lostA xs)) gb xs w' → flotillalaw20_OwnOne_k2 (std Try.prog) vs again w' Q) :
    flotillalaw20_OwnOne_k4 (std Try.prog) (.pointer (some ⟨gb, 0, none⟩)) (.pointer (some ⟨gO, 0, none⟩)) (.pointer (some ⟨gL, 0, none⟩)) vs again ro w Q := by
  unfold flotillalaw20_OwnOne_k4
  have hF := hB.F
  have hFF : Owns w (FF gO gL own (lostA xs)) := hF.sub (.trans (List.sublist_append_right _ _) (List.sublist_append_right _ _))
  refine st_loadN (cs := intsV .i64 own) ag29 (by rw [sz29, intsV_len, hl]) (by
    intro j v hj
    rw [add_mk, Nat.zero_add, cell_at (hFF.at_ 1 rfl)]
    simpa using hj) ?_
  refine st_call (told_spec hl (hr.rd hF) (by omega) ht) ?_
  rintro _ w1 ⟨rfl, hU1⟩
  have hB := (hB.ext hU1).sub (.trans (List.sublist_append_right _ _) (List.sublist_append_right _ _) : (FF gO gL own (lostA xs)).Sublist _)
  clear hF hFF hU1 hr
  obtain ⟨R, hO, hcl⟩ := hB.open
  simp only [PX]
  refine st_alloc ze29 hB.upd hO ?_
  intro g17 w2 hU2 hO2 hg17
  refine st_storeN (vs := intsV .i64 (ownA xs)) (by rw [sz29, intsV_len, ownA_len]) hU2 hO2 0 rfl (by rw [intsV_len, ownA_len]; exact Nat.le_refl 16) (intsV_one _ _) (.inr hg17) ?_
  intro w3 hU3 hO3
  simp only [PX, BX, Bool.not_true]
  refine st_loadN (cs := intsV .i64 (ownA xs)) ag29 (by rw [sz29, intsV_len, ownA_len]) (by
    intro j v hj
    have hj16 : j < 16 := by have := (List.getElem?_eq_some_iff.1 hj).1; rw [intsV_len, ownA_len] at this; exact this
    rw [add_mk, Nat.zero_add, cell_at (hO3.at_ 0 rfl)]
    simp only [List.take_zero, List.nil_append, List.getElem?_toArray]
    rw [List.getElem?_append_left (by rw [intsV_len, ownA_len]; exact hj16)]
    exact hj) ?_
  refine st_storeN (vs := intsV .i64 (ownA xs)) (by rw [sz29, intsV_len, ownA_len]) hU3 hO3 2 rfl (by rw [intsV_len, ownA_len]; simp [intsV_len, hl]) (intsV_one _ _) (.inr hgO) ?_
  intro w4 hU4 hO4
  have hB4 : Bk W (FF gO gL (ownA xs) (lostA xs)) gb xs w4 := by
    refine hcl _ w4 ?_ hU4
    have hO5 := hO4.sub (List.sublist_cons_self _ _)
    have e : ((intsV .i64 own).toArray.toList.take 0 ++ intsV .i64 (ownA xs) ++ (intsV .i64 own).toArray.toList.drop (0 + (intsV .i64 (ownA xs)).length)) = intsV .i64 (ownA xs) := by
      rw [List.take_zero, List.nil_append, List.drop_eq_nil_of_le (by simp [intsV_len, hl, ownA_len]), List.append_nil]
    rw [e] at hO5
    exact hO5
  clear hO hcl hU2 hO2 hU3 hO3 hU4 hO4 hB
  refine st_loop (fun vs w' => ∃ k : Nat, k ≤ 16 ∧ vs.getD 0 undef = .int .i64 k ∧ Bk W (FF gO gL (ownA xs) (lostA xs)) gb xs w') (fun vs _ => 16 - (intOf (vs.getD 0 undef)).toNat) ⟨0, by omega, rfl, hB4⟩ ?_
  rintro dv vs2 w5 - ⟨k, hk16, e0, hB5⟩
  simp (disch := omega) only [e0, PX, BX]
  refine ⟨fun hlt => ?_, fun hge => hk w5 hB5⟩
  have hlt' : k < 16 := by omega
  have hB6 : Bk W (FF gO gL (ownA xs) (lostA xs)) gb xs w5.drew := hB5.ext (Upd.drew w5 [])
  let S : World → Prop := fun w' => Owns w' (FF gO gL (ownA xs) (lostA xs))
  have hS : S w5.drew := hB6.F
  have hne : ∃ w', S w' := ⟨_, hS⟩
  have dO : ∀ w', S w' → w'.cell? ⟨gO, k, none⟩ = some (.int .i64 (lfAt xs (k : Int)).owner) := fun w' h => FF_own h (ownA_at xs hlt')
  have dL : ∀ w', S w' → w'.cell? ⟨gL, k, none⟩ = some (.bool (lfAt xs (k : Int)).lost) := fun w' h => FF_lost h (lostA_at xs hlt')
  refine st_draw S hS ?_
  simp (disch := first | assumption | omega) only [ia29S, SX, SLX, BX]
  refine st_call (Owner_spec hB6 (k : Int)) ?_
  rintro _ w6 ⟨rfl, he⟩
  subst w6
  refine st_same hS ?_
  simp (disch := first | assumption | omega) only [ia30S, SX, SLX, BX]
  refine ⟨fun h => absurd rfl h, fun _ => ?_⟩
  refine st_call (Lost_spec hB6 (k : Int)) ?_
  rintro _ w6 ⟨rfl, he⟩
  subst w6
  refine st_same hS ?_
  have hL := (hI.at_ (k : Int)).lo
  have fin : flotillalaw20_OwnOne_k5 (std Try.prog) vs2 (fun vs' w' => (∃ k : Nat, k ≤ 16 ∧ vs'.getD 0 undef = .int .i64 k ∧ Bk W (FF gO gL (ownA xs) (lostA xs)) gb xs w') ∧ 16 - (intOf (vs'.getD 0 undef)).toNat < 16 - (intOf (Value.int .i64 (k : Int))).toNat) w5.drew Q := by
    unfold flotillalaw20_OwnOne_k5
    simp (disch := omega) only [e0, PX, w64]
    refine ⟨⟨k + 1, by omega, rfl, hB6⟩, ?_⟩
    simp only [List.getD_cons_zero, intOf]; omega
  simp (disch := first | assumption | omega) only [ia29S, ia30S, SX, SLX, BX, beq_self_eq_true, Bool.not_true]
  refine ⟨fun ho => ?_, fun ho => fin⟩
  rw [bool_var]
  refine ⟨fun hl => absurd (hL hl) ho, fun _ => fin⟩
end Go.Proofs.Ytilfkccahlkcaaa
