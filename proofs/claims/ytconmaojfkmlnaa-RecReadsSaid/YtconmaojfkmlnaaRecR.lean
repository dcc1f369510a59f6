/- Decode, and the function that it defers. -/
import Derived.Test.YtconmaojfkmlnaaRecQ
namespace Go.Proofs.Ytconmaojfkmlnaa.Rec
open Go Go.Proofs.Ytconmaojfkmlnaa Go.Proofs.Ytconmaojfkmlnaa.Enc Xf Go.RowKit
set_option linter.unusedVariables false
set_option linter.unusedSimpArgs false
set_option maxRecDepth 100000

section
variable {P : Program} {ops : Array Oper} {Q : Exit → Act → List Frame → World → Prop} {i : Nat} {rest : List Nat} {a : Act} {cs cs' : List Frame} {w w' : World} {o : Oper}
theorem wpSO_val {v : Value} (ho : ops[i]? = some o) (hw : Region.wanted o (yielded ops a.tmps) = true) (hr : (execOp a.eval o).run P w = .ok (.value v) w') (h : wpOpsS P ops Q rest (a.put o.dst v) cs w') : wpOpsS P ops Q (i :: rest) a cs w := by
  unfold wpOpsS
  rw [ho]
  simp only [hw, if_true]
  rw [hr]
  exact h
theorem wpSO_skip (ho : ops[i]? = some o) (hw : Region.wanted o (yielded ops a.tmps) = true) (hr : (execOp a.eval o).run P w = .ok .skip w') (h : wpOpsS P ops Q rest (a.put o.dst undef) cs w') : wpOpsS P ops Q (i :: rest) a cs w := by
  unfold wpOpsS
  rw [ho]
  simp only [hw, if_true]
  rw [hr]
  exact h
theorem wpSO_rec {v : Value} (ho : ops[i]? = some o) (hw : Region.wanted o (yielded ops a.tmps) = true) (hr : (execOp a.eval o).run P w = .ok .recover w') (hc : recoverD cs = some (v, cs')) (h : wpOpsS P ops Q rest (a.put o.dst v) cs' w') : wpOpsS P ops Q (i :: rest) a cs w := by
  unfold wpOpsS
  rw [ho]
  simp only [hw, if_true]
  rw [hr]
  simp only [hc]
  exact h
theorem wpSO_idle (ho : ops[i]? = some o) (hw : Region.wanted o (yielded ops a.tmps) = true) (hr : (execOp a.eval o).run P w = .ok .recover w') (hc : recoverD cs = none) (h : wpOpsS P ops Q rest (a.put o.dst .nilIface) cs w') : wpOpsS P ops Q (i :: rest) a cs w := by
  unfold wpOpsS
  rw [ho]
  simp only [hw, if_true]
  rw [hr]
  simp only [hc]
  exact h
theorem wpSO_nil (h : Q .normal a cs w) : wpOpsS P ops Q [] a cs w := h
end
attribute [local irreducible] Go.wpOpsS
abbrev AT (n : Nat) (ds : List Deferred) (s : Nat → Value) : Act := actOf ds ((List.range n).map fun i => .val (s i))
theorem AT_put (n : Nat) (ds : List Deferred) (s : Nat → Value) (d : Nat) (v : Value) : (AT n ds s).put (some d) v = AT n ds (upd s d v) := by
  unfold AT actOf Act.put
  simp only [List.map_map]
  refine congrArg (fun t => ({ tmps := t, defers := ds } : Act)) ?_
  apply Array.ext'
  simp only [Array.toList_setIfInBounds]
  apply List.ext_getElem?
  intro i
  by_cases hi : i < n
  · by_cases hd : d = i
    · subst hd
      rw [List.getElem?_set_self (by simpa using hi)]
      simp [hi, upd, Sl.v]
    · rw [List.getElem?_set_ne hd]
      have hd' : ¬ i = d := fun h => hd h.symm
      simp [hi, upd, Sl.v, hd']
  · rw [List.getElem?_eq_none (by simpa using hi), List.getElem?_eq_none (by simpa using hi)]
/-- the frame at a function's start -/
theorem enter_AT (args : List Value) (n : Nat) : ({ tmps := args.toArray ++ Array.replicate (n - args.toArray.size) undef, defers := [] } : Act) = AT (args.length + (n - args.length)) [] (fun i => args.getD i undef) := by
  unfold AT actOf
  refine congrArg (fun t => ({ tmps := t, defers := [] } : Act)) ?_
  apply Array.ext'
  rw [Array.toList_append, Array.toList_replicate]
  apply List.ext_getElem?
  intro i
  simp only [List.map_map, List.size_toArray]
  by_cases hi : i < args.length
  · rw [List.getElem?_append_left hi, List.getElem?_map, List.getElem?_range (by omega)]
    simp [Sl.v, hi]
  · rw [List.getElem?_append_right (by omega)]
    by_cases h2 : i < args.length + (n - args.length)
    · rw [List.getElem?_map, List.getElem?_range h2, List.getElem?_replicate, if_pos (by omega)]
      simp [Sl.v, hi]
    · rw [List.getElem?_eq_none (by simp; omega), List.getElem?_eq_none (by simp; omega)]
section
variable {ops : Array Oper} {Q : Exit → Act → List Frame → World → Prop} {i d n : Nat} {ds : List Deferred} {rest : List Nat} {s : Nat → Value} {cs cs' : List Frame} {w w' : World} {o : Oper}
theorem wpT_val {v : Value} (ho : ops[i]? = some o) (hd : o.dst = some d) (hw : Region.wanted o (yielded ops (AT n ds s).tmps) = true) (hr : (execOp (AT n ds s).eval o).run Try.prog w = .ok (.value v) w') (h : wpOpsS Try.prog ops Q rest (AT n ds (upd s d v)) cs w') : wpOpsS Try.prog ops Q (i :: rest) (AT n ds s) cs w :=
  wpSO_val ho hw hr (by rw [hd, AT_put]; exact h)
theorem wpT_skip (ho : ops[i]? = some o) (hd : o.dst = none) (hw : Region.wanted o (yielded ops (AT n ds s).tmps) = true) (hr : (execOp (AT n ds s).eval o).run Try.prog w = .ok .skip w') (h : wpOpsS Try.prog ops Q rest (AT n ds s) cs w') : wpOpsS Try.prog ops Q (i :: rest) (AT n ds s) cs w :=
  wpSO_skip ho hw hr (by rw [hd]; exact h)
theorem wpT_rec {v : Value} (ho : ops[i]? = some o) (hd : o.dst = some d) (hw : Region.wanted o (yielded ops (AT n ds s).tmps) = true) (hr : (execOp (AT n ds s).eval o).run Try.prog w = .ok .recover w') (hc : recoverD cs = some (v, cs')) (h : wpOpsS Try.prog ops Q rest (AT n ds (upd s d v)) cs' w') : wpOpsS Try.prog ops Q (i :: rest) (AT n ds s) cs w :=
  wpSO_rec ho hw hr hc (by rw [hd, AT_put]; exact h)
theorem wpT_idle (ho : ops[i]? = some o) (hd : o.dst = some d) (hw : Region.wanted o (yielded ops (AT n ds s).tmps) = true) (hr : (execOp (AT n ds s).eval o).run Try.prog w = .ok .recover w') (hc : recoverD cs = none) (h : wpOpsS Try.prog ops Q rest (AT n ds (upd s d .nilIface)) cs w') : wpOpsS Try.prog ops Q (i :: rest) (AT n ds s) cs w :=
  wpSO_idle ho hw hr hc (by rw [hd, AT_put]; exact h)
end
abbrev reBlk (g : Nat) (r : Re) : Nat × Obj := (g, reO r nilS nilS)
abbrev errBlk (g : Nat) (e : Nat) : Nat × Obj := (g, .cells #[.int .i64 (e : Nat)] 34 (0, 0))

theorem sz_fault : (Try.prog.info? 57).map (·.size) = some 1 := by kernel_rfl
theorem ze_fault : (Try.prog.info? 57).bind (·.zero) = some (.agg #[.int .i64 0]) := by kernel_rfl
/-- nothing is wrong: nothing is done -/
theorem catch_idle (gR gE : Nat) (w : World) : CallsD Try.prog 23 #[.pointer (some ⟨gR, 0, none⟩), .pointer (some ⟨gE, 0, none⟩)] .returning w fun e u' w' => (∃ v, e = .returned v) ∧ u' = .returning ∧ Upd w w' [] := by
  refine callsD_of_wpS Try.func23 rfl fun c₀ cs hu => ?_
  rw [show Try.f23.ntmps = 13 by kernel_rfl, show (#[.pointer (some ⟨gR, 0, none⟩), .pointer (some ⟨gE, 0, none⟩)] : Array Value) = [Value.pointer (some ⟨gR, 0, none⟩), .pointer (some ⟨gE, 0, none⟩)].toArray from rfl, enter_AT]
  show Code.wpS _ _ _ (AT 13 [] _) _ _
  apply wpS_seq
  apply wpS_region
  show wpOpsS _ _ _ [0, 1, 2, 3, 4, 5, 6, 7] _ _ _
  refine wpT_idle (w' := w) rfl rfl rfl (by kernel_rfl) (by simp [recoverD, hu]) ?_
  refine wpT_val (w' := w) (v := .tuple #[.agg #[.int .i64 0], .bool false]) rfl rfl rfl (by kernel_rfl) ?_
  refine wpT_val (w' := w) (v := .tuple #[.agg #[.int .i64 0], .bool false]) rfl rfl rfl (by kernel_rfl) ?_
  refine wpT_val (w' := w) (v := .agg #[.int .i64 0]) rfl rfl rfl (by kernel_rfl) ?_
  refine wpT_val (w' := w) (v := .bool false) rfl rfl rfl (by kernel_rfl) ?_
  refine wpT_val (w' := w.alloc (.cells #[.int .i64 0] 57)) (v := .pointer (some ⟨w.heap.size, 0, none⟩)) rfl rfl rfl (run_sAlloc ze_fault) ?_
  have hO := (Owns.nil w).alloc (.cells #[.int .i64 0] 57)
  have hst := run_storeN (P := Try.prog) (w := w.alloc (.cells #[.int .i64 0] 57)) (t := 57) (g := w.heap.size) (off := 0) (vs := [.int .i64 0]) (by rw [sz_fault]; rfl) (hO.at_ 0 rfl) (by simp) (by intro u hu; simp at hu; subst hu; rfl)
  refine wpT_skip rfl rfl rfl hst ?_
  refine wpT_val (w' := (w.alloc (.cells #[.int .i64 0] 57)).setRow w.heap.size _) (v := .bool false) rfl rfl rfl rfl ?_
  have hU : Upd w ((w.alloc (.cells #[.int .i64 0] 57)).setRow w.heap.size (List.take 0 #[Value.int .i64 0].toList ++ [Value.int .i64 0] ++ List.drop (0 + [Value.int .i64 0].length) #[Value.int .i64 0].toList).toArray) [] := (Upd.alloc w _ []).then_ (Upd.setRow _ _ _) fun x hx => by simp at hx; subst hx; exact .inr (Nat.le_refl _)
  apply wpSO_nil
  apply wpS_seq
  apply wpS_region
  show wpOpsS _ _ _ [0] _ _ _
  refine wpT_val (v := .bool false) rfl rfl rfl rfl ?_
  apply wpSO_nil
  refine wpS_cond (t := false) rfl ?_
  refine wpS_of_wp (wp_skip ?_)
  refine ⟨rfl, .returning, ?_, .tuple #[], by kernel_rfl, ⟨_, rfl⟩, rfl, hU⟩
  cases c₀
  simp only at hu
  subst hu
  rfl

abbrev faultD : List PanicEntry := [{ v := faultV, recovered := true }]
theorem u_fault : Try.prog.underlying 57 = some (.struct (Try.prog.fieldsOf 57)) := by kernel_rfl
/-- a fault is caught: no record, and its reason -/
theorem catch_fault {W : World} (gR gE : Nat) (e0 : Nat) (r0 : Re) (ks : List Nat) (w : World) (hO : Owns w [reBlk gR r0, errBlk gE e0]) (hU : Upd W w ks) (hR : gR ∈ ks ∨ W.heap.size ≤ gR) (hE : gE ∈ ks ∨ W.heap.size ≤ gE) :
    CallsD Try.prog 23 #[.pointer (some ⟨gR, 0, none⟩), .pointer (some ⟨gE, 0, none⟩)] (.panicking faultC) w fun e u' w' => (∃ v, e = .returned v) ∧ u' = .panicking faultD ∧ Upd W w' ks ∧ Owns w' [reBlk gR re0, errBlk gE 5] := by
  refine callsD_of_wpS Try.func23 rfl fun c₀ cs hu => ?_
  rw [show Try.f23.ntmps = 13 by kernel_rfl, show (#[.pointer (some ⟨gR, 0, none⟩), .pointer (some ⟨gE, 0, none⟩)] : Array Value) = [Value.pointer (some ⟨gR, 0, none⟩), .pointer (some ⟨gE, 0, none⟩)].toArray from rfl, enter_AT]
  show Code.wpS _ _ _ (AT 13 [] _) _ _
  apply wpS_seq
  apply wpS_region
  show wpOpsS _ _ _ [0, 1, 2, 3, 4, 5, 6, 7] _ _ _
  refine wpT_rec (v := faultV) (w' := w) (cs' := { c₀ with mode := .panicking faultD } :: cs) rfl rfl rfl (by kernel_rfl) (by simp [recoverD, hu]) ?_
  refine wpT_val (w' := w) (v := .tuple #[.agg #[.int .i64 5], .bool true]) rfl rfl rfl (by kernel_rfl) ?_
  refine wpT_val (w' := w) (v := .tuple #[.agg #[.int .i64 5], .bool true]) rfl rfl rfl (by kernel_rfl) ?_
  refine wpT_val (w' := w) (v := .agg #[.int .i64 5]) rfl rfl rfl (by kernel_rfl) ?_
  refine wpT_val (w' := w) (v := .bool true) rfl rfl rfl (by kernel_rfl) ?_
  refine wpT_val (w' := w.alloc (.cells #[.int .i64 0] 57)) (v := .pointer (some ⟨w.heap.size, 0, none⟩)) rfl rfl rfl (run_sAlloc ze_fault) ?_
  have hO1 := hO.alloc (.cells #[.int .i64 0] 57)
  have hst := run_storeN (P := Try.prog) (w := w.alloc (.cells #[.int .i64 0] 57)) (t := 57) (g := w.heap.size) (off := 0) (vs := [.int .i64 5]) (by rw [sz_fault]; rfl) (hO1.at_ 0 rfl) (by simp) (by intro u hu; simp at hu; subst hu; rfl)
  refine wpT_skip rfl rfl rfl hst ?_
  refine wpT_val (w' := (w.alloc (.cells #[.int .i64 0] 57)).setRow w.heap.size _) (v := .bool true) rfl rfl rfl rfl ?_
  have hU2 : Upd W ((w.alloc (.cells #[.int .i64 0] 57)).setRow w.heap.size (List.take 0 #[Value.int .i64 0].toList ++ [Value.int .i64 5] ++ List.drop (0 + [Value.int .i64 5].length) #[Value.int .i64 0].toList).toArray) ks := (hU.then_ (Upd.alloc w _ []) fun x hx => by cases hx).then_ (Upd.setRow _ _ _) fun x hx => by simp at hx; subst hx; exact .inr hU.size
  have hO2 := hO1.setRow 0 rfl (List.take 0 #[Value.int .i64 0].toList ++ [Value.int .i64 5] ++ List.drop (0 + [Value.int .i64 5].length) #[Value.int .i64 0].toList).toArray
  generalize (w.alloc (.cells #[.int .i64 0] 57)).setRow w.heap.size _ = w2 at hU2 hO2 ⊢
  have hO2 : Owns w2 ((w.heap.size, .cells #[.int .i64 5] 57 (0, 0)) :: [reBlk gR r0, errBlk gE e0]) := hO2
  generalize hg : w.heap.size = gF at hO2
  apply wpSO_nil
  apply wpS_seq
  apply wpS_region
  show wpOpsS _ _ _ [0] _ _ _
  refine wpT_val (v := .bool true) rfl rfl rfl rfl ?_
  apply wpSO_nil
  refine wpS_cond (t := true) rfl ?_
  refine wpS_of_wp ?_
  simp only [if_true]
  generalize hs : upd _ 9 (Value.bool true) = s
  have s0 : s 0 = .pointer (some ⟨gR, 0, none⟩) := by subst hs; rfl
  have s1 : s 1 = .pointer (some ⟨gE, 0, none⟩) := by subst hs; rfl
  have s2 : s 2 = .pointer (some ⟨gF, 0, none⟩) := by subst hs; subst hg; rfl
  clear hs
  have hpiece : catch_b_x (std Try.prog) s w2 (fun fr w' => Upd W w' ks ∧ Owns w' [reBlk gR re0, errBlk gE 5]) := by
    unfold catch_b_x
    simp only [s0, s1, s2]
    have hO3 := hO2.ext (Upd.drew w2 [])
    have hU3 : Upd W w2.drew ks := hU2.then_ (Upd.drew w2 []) fun x hx => by cases hx
    have hne : ∃ w', (fun w' : World => w'.cell? ⟨gF, 0, none⟩ = some (.int .i64 5)) w' := ⟨_, cell_at (hO3.at_ 0 rfl)⟩
    refine st_draw (fun w' => w'.cell? ⟨gF, 0, none⟩ = some (.int .i64 5)) (cell_at (hO3.at_ 0 rfl)) ?_
    have hc : ∀ w', (fun w' : World => w'.cell? ⟨gF, 0, none⟩ = some (.int .i64 5)) w' → w'.cell? ⟨gF, 0, none⟩ = some (.int .i64 5) := fun w' h => h
    simp (disch := first | assumption | omega) only [SX, SLX, add_mk, Nat.reduceAdd]
    rw [step_run (show (sBuild 33 []).run Try.prog _ = .ok (.value (.agg (reV re0 nilS nilS).toArray)) _ by kernel_rfl)]
    refine st_same (cell_at (hO3.at_ 0 rfl)) ?_
    refine st_re (r := re0) hU3 hO3 1 rfl rfl rfl hR ?_
    intro w4 hU4 hO4
    refine st_same (cell_at (hO4.at_ 0 rfl)) ?_
    refine st_storeB sz34 rfl hU4 hO4 2 rfl (by simp) (.inr (Nat.zero_le _)) hE ?_
    intro w5 hU5 hO5
    refine st_keepT (fun _ => True) trivial ?_
    exact ⟨hU5, hO5.sub (.cons _ (List.Sublist.refl _))⟩
  rw [catch_b_eq] at hpiece
  refine Code.wp_mono (fun e a w he => he.1) (X_wp 4 mixed _ _ _ w2 (Y_out (dfs := []) _ (onN (fun fr w' => Upd W w' ks ∧ Owns w' [reBlk gR re0, errBlk gE 5])) _ _ w2 ?_ hpiece))
  intro e fr w' he
  cases e with
  | normal =>
    obtain ⟨h1, h2⟩ := he
    refine ⟨rfl, .panicking faultD, rfl, .tuple #[], by kernel_rfl, ⟨_, rfl⟩, rfl, h1, h2⟩
  | _ => exact he.elim
end Go.Proofs.Ytconmaojfkmlnaa.Rec
