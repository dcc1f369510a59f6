/- read, whole: what it tells, or gives up with. -/
import Derived.Test.YtconmaojfkmlnaaRecN
namespace Go.Proofs.Ytconmaojfkmlnaa.Rec
open Go Go.Proofs.Ytconmaojfkmlnaa Go.Proofs.Ytconmaojfkmlnaa.Enc Xf Go.RowKit
set_option linter.unusedVariables false
set_option linter.unusedSimpArgs false
set_option maxRecDepth 100000

abbrev AS (s : Nat → Value) : Act := actOf [] ((List.range 91).map fun i => .val (s i))
def upd (s : Nat → Value) (d : Nat) (v : Value) : Nat → Value := fun i => if i = d then v else s i
theorem AS_put (s : Nat → Value) (d : Nat) (v : Value) : (AS s).put (some d) v = AS (upd s d v) := by
  unfold AS actOf Act.put
  simp only [List.map_map]
  congr 1
  apply Array.ext'
  simp only [Array.toList_setIfInBounds]
  apply List.ext_getElem?
  intro i
  by_cases hi : i < 91
  · by_cases hd : d = i
    · subst hd
      rw [List.getElem?_set_self (by simpa using hi)]
      simp [hi, upd, Sl.v]
    · rw [List.getElem?_set_ne hd]
      have hd' : ¬ i = d := fun h => hd h.symm
      simp [hi, upd, Sl.v, hd']
  · rw [List.getElem?_eq_none (by simpa using hi), List.getElem?_eq_none (by simpa using hi)]
section
variable {ops : Array Oper} {Q : Exit → Act → World → Prop} {i d : Nat} {rest : List Nat} {s : Nat → Value} {w w' : World} {o : Oper}
theorem wpA_val {v : Value} (ho : ops[i]? = some o) (hd : o.dst = some d) (hw : Region.wanted o (yielded ops (AS s).tmps) = true) (hr : (execOp (AS s).eval o).run Try.prog w = .ok (.value v) w') (h : wpOps Try.prog ops Q rest (AS (upd s d v)) w') : wpOps Try.prog ops Q (i :: rest) (AS s) w :=
  wpO_val ho hw hr (by rw [hd, AS_put]; exact h)
theorem wpA_call {f : FuncId} {args : Array Value} {R : Value → World → Prop} (ho : ops[i]? = some o) (hd : o.dst = some d) (hw : Region.wanted o (yielded ops (AS s).tmps) = true) (hr : (execOp (AS s).eval o).run Try.prog w = .ok (.enter f args) w') (hc : CallsR Try.prog f args w' R) (h : ∀ v w'', R v w'' → wpOps Try.prog ops Q rest (AS (upd s d v)) w'') : wpOps Try.prog ops Q (i :: rest) (AS s) w :=
  wpO_call ho hw hr hc fun v w'' hv => by rw [hd, AS_put]; exact h v w'' hv
theorem wpA_not (ho : ops[i]? = some o) (hd : o.dst = some d) (hw : Region.wanted o (yielded ops (AS s).tmps) = false) (h : wpOps Try.prog ops Q rest (AS (upd s d undef)) w) : wpOps Try.prog ops Q (i :: rest) (AS s) w := by
  unfold wpOps
  rw [ho]
  simp only [hw, Bool.false_eq_true, if_false]
  rw [hd, AS_put]; exact h
theorem wpA_skip (ho : ops[i]? = some o) (hd : o.dst = none) (hw : Region.wanted o (yielded ops (AS s).tmps) = true) (hr : (execOp (AS s).eval o).run Try.prog w = .ok .skip w') (h : wpOps Try.prog ops Q rest (AS s) w') : wpOps Try.prog ops Q (i :: rest) (AS s) w :=
  wpO_skip ho hw hr (by rw [hd]; exact h)
end
theorem piece_wp {c : Code} {x : Prop} {s : Nat → Value} {w : World} {N : List Sl → World → Prop} {Q : Exit → Act → World → Prop} (heq : x = Y Try.prog (std Try.prog) 2 [] c (onN N) ((List.range 91).map fun i => .val (s i)) w) (hx : x) (hQ : ∀ fr w', N fr w' → Q .normal (actOf [] fr) w') :
    c.wp Try.prog Q (AS s) w := by
  rw [heq] at hx
  refine Code.wp_mono (fun e a w he => he.1) (X_wp 2 mixed c Q _ w (Y_out (dfs := []) c (onN N) Q _ w ?_ hx))
  intro e fr w' he
  cases e <;> first | exact hQ _ _ he | exact he.elim
/-- a piece that ends in the reading's frame -/
theorem piece_F {c : Code} {x : Prop} {s : Nat → Value} {w : World} {g gA gB : Nat} {R : World → Prop} {Q : Exit → Act → World → Prop} (heq : x = Y Try.prog (std Try.prog) 2 [] c (onN (onF g gA gB R)) ((List.range 91).map fun i => .val (s i)) w) (hx : x) (hQ : ∀ s w', Fr3 g gA gB s → R w' → Q .normal (AS s) w') :
    c.wp Try.prog Q (AS s) w :=
  piece_wp heq hx fun fr w' ⟨⟨s', he, hf⟩, hR⟩ => by subst he; exact hQ s' w' hf hR

theorem p1_walk {W w : World} {g gA : Nat} {hb : List (Nat × Obj)} {l : List UInt8} {sl : Nat → Value} (f0 : sl 0 = .pointer (some ⟨g, 0, none⟩)) (f2 : sl 2 = .pointer (some ⟨gA, 0, none⟩)) (hA : W.heap.size ≤ gA) (hI : RI W [(gA, reO re0 nilS nilS)] g hb l 0 w) :
    read_p1_x (std Try.prog) sl w (fun fr w' => ∃ gB, onF g gA gB (RS W g gA gB hb (gHead (l, 0)).1 (gHead (l, 0)).2) fr w') := by
  unfold read_p1_x
  simp only [f0, f2]
  refine st_call (gByte (s := (l, 0)) hI) ?_
  rintro _ w2 ⟨rfl, hk1, hI⟩
  simp (disch := first | assumption | omega) only [PX, BX, add_mk, Nat.reduceAdd, w64]
  refine st_call (gEight hI) ?_
  rintro _ w3 ⟨rfl, hI⟩
  refine st_call (gFour hI) ?_
  rintro _ w4 ⟨rfl, hk2, hI⟩
  simp (disch := first | assumption | omega) only [PX, BX, add_mk, Nat.reduceAdd, w64]
  refine st_call (gEight hI) ?_
  rintro _ w5 ⟨rfl, hI⟩
  rw [step_run (build_head _ _ _ _ _)]
  obtain ⟨T, hO, hU, hcl⟩ := RI.open_ hI
  refine st_alloc ze_re hU hO ?_
  intro gB w6 hU6 hO6 hB
  have hO6 : Owns w6 ((gB, reO re0 nilS nilS) :: (gA, reO re0 nilS nilS) :: T) := hO6
  refine st_re (r := { re0 with kind := ((tk (l, 0) 1).1 : Nat), lsn := (tk (tk (l, 0) 1).2 8).1, txn := ((tk (tk (tk (l, 0) 1).2 8).2 4).1 : Nat), prev := (tk (tk (tk (tk (l, 0) 1).2 8).2 4).2 8).1 }) hU6 hO6 0 rfl rfl rfl (.inr hB) ?_
  intro w7 hU7 hO7
  have hI7 := hcl w7 [(gB, _), (gA, _)] hU7 hO7
  refine ⟨gB, onF_mk rfl rfl rfl rfl rfl ?_⟩
  exact ⟨nilS, nilS, [], [], RowH.nil_ _ _, RowH.nil_ _ _, (fun p hp => by cases hp), hA, hB, hI7⟩
end Go.Proofs.Ytconmaojfkmlnaa.Rec
