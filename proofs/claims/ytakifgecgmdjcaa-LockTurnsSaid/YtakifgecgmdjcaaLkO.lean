/- Locks: steps that come in; short, led. -/
import Derived.Test.YtakifgecgmdjcaaLkN
namespace Go.Proofs.Ytakifgecgmdjcaa
open Go Xf Go.RowKit
set_option linter.unusedVariables false
set_option linter.unusedSimpArgs false
set_option maxRecDepth 100000

structure LOp where
  kind : Int
  txn : Int
  want : Wt
def opV (o : LOp) : List Value := [.int .i64 o.kind, .int .i64 o.txn, strV o.want.name, .int .i64 o.want.mode]
def shortB (o : LOp) : Bool := decide (o.want.name.length ≤ 1000)
theorem short_spec (o : LOp) (w : World) : CallsR Try.prog 8 #[.agg (opV o).toArray] w fun u w' => u = .bool (shortB o) ∧ Upd w w' [] := by
  apply flotillalaw13_short_sound
  unfold flotillalaw13_short_x
  refine st_box (Upd.refl w []) (Owns.nil w) ?_
  intro b w1 hU hO hb
  have c2 : w1.cell? ⟨b, 2, none⟩ = some (strV o.want.name) := (cell_at (hO.at_ 0 rfl)).trans rfl
  simp (disch := first | assumption | omega) only [PX, LX, add_mk, Nat.reduceAdd, size_mk]
  refine ⟨?_, hU⟩
  unfold shortB
  congr 1
  rw [decide_eq_decide]; omega
/-- one of the steps -/
theorem op_at {W : World} {v : Value} {ops : List LOp} {i : Nat} (hr : RdS W opV 4 v ops) (hi : i < ops.length) : ∃ a c, v = .slice (some a) ops.length c ∧ ∀ w', Upd W w' [] → (∀ j u, (opV ops[i])[j]? = some u → w'.cell? (a.add (i * 4 + j)) = some u) := by
  obtain ⟨A, c, rfl, hm, hrd⟩ := hr
  obtain ⟨a, rfl, hx⟩ := Rd.row (f := opV) (k := 4) (fun _ => rfl) (by omega) hrd hi
  refine ⟨a, c, rfl, fun w' hU j u hu => ?_⟩
  have := hx w' hU j u hu
  rwa [show ((i : Nat) : Int).toNat = i by omega] at this
section
variable {w W : World} {a : Addr} {i : Nat} {o : LOp}
theorem op_load (h : ∀ j u, (opV o)[j]? = some u → w.cell? (a.add (i * 4 + j)) = some u) : (loadVar 32 (a.add (i * 4))).run Try.prog w = .ok (.agg (opV o).toArray) w :=
  run_loadVarN (cs := opV o) ag32 (by rw [sz32]; rfl) fun j v hj => by rw [add_add']; exact h j v hj
theorem op_want (h : ∀ j u, (opV o)[j]? = some u → w.cell? (a.add (i * 4 + j)) = some u) : (loadVar 30 (a.add (i * 4 + 2))).run Try.prog w = .ok (wtV o.want) w :=
  run_loadVarN (cs := [strV o.want.name, .int .i64 o.want.mode]) ag30 (by rw [sz30]; rfl) fun j v hj => by
    rw [add_add', Nat.add_assoc]
    refine h (2 + j) v ?_
    rw [← hj]
    match j with
    | 0 => rfl
    | 1 => rfl
    | j + 2 => simp [opV, show 2 + (j + 2) = j + 4 by omega]
end
/-- one step on a table -/
def stepT (T : Tb) (new : Nat) (o : LOp) : Tb :=
  if o.kind = 0 then (askT T new o.txn o.want).1 else if o.kind = 1 then (goneT T o.txn true).1 else if o.kind = 2 then (goneT T o.txn false).1 else T
def stepS (T : Tb) (new : Nat) (o : LOp) : Tb := if shortB o then stepT T new o else T
/-- tables behind steps -/
inductive Reach : List LOp → Tb → Prop
  | nil : Reach [] ⟨[], []⟩
  | snoc {l : List LOp} {T : Tb} (new : Nat) (o : LOp) : Reach l T → Reach (l ++ [o]) (stepS T new o)
theorem stepT_ok {T : Tb} {B : Nat} (new : Nat) (o : LOp) (h : okT T B) : okT (stepT T new o) (B + 1) := by
  unfold stepT
  split
  · exact askT_ok new _ _ h
  · split
    · exact (goneT_ok _ _ h).mono (Nat.le_succ B)
    · split
      · exact (goneT_ok _ _ h).mono (Nat.le_succ B)
      · exact h.mono (Nat.le_succ B)
theorem stepS_ok {T : Tb} {B : Nat} (new : Nat) (o : LOp) (h : okT T B) : okT (stepS T new o) (B + 1) := by
  unfold stepS
  split
  · exact stepT_ok new o h
  · exact h.mono (Nat.le_succ B)
theorem Reach.ok {l : List LOp} {T : Tb} (h : Reach l T) : okT T l.length := by
  induction h with
  | nil => exact okT.empty 0
  | snoc new o _ ih => rw [List.length_append, List.length_singleton]; exact stepS_ok new o ih
section
variable {W w w' : World} {F G : List (Nat × Obj)} {T : Tb} {g : Nat} {K : Value → World → Prop}
theorem ask_small {B : Nat} (hok : okT T B) (hB : B ≤ 500) (s : List UInt8) : ∀ q, aGet T.names s = some q → smallN q.2 := fun q hq => by
  have h1 := (hok.nm s q hq).1
  have h2 := (hok.nm s q hq).2.1
  exact ⟨by omega, by omega⟩
theorem led_spec {ops : List LOp} {v : Value} (hr : RdS W opV 4 v ops) (hU : Upd W w []) (hO : Owns w F) :
    CallsR Try.prog 6 #[v] w fun u w' => ∃ g T, u = .pointer (some ⟨g, 0, none⟩) ∧ W.heap.size ≤ g ∧ Reach (ops.take 60) T ∧ TbAt W [] F T g w' := by
  apply flotillalaw13_led_sound
  unfold flotillalaw13_led_x flotillalaw13_led_k1 flotillalaw13_led_k2
  refine st_call (New_spec hU hO) ?_
  rintro _ w1 ⟨g, rfl, hg, hT0⟩
  obtain ⟨A, c, rfl, hmax, -⟩ := id hr
  refine st_loop (fun vs w' => ∃ (i : Nat) (T : Tb), i ≤ ops.length ∧ i ≤ 60 ∧ vs.getD 0 undef = .int .i64 i ∧ Reach (ops.take i) T ∧ TbAt W [] F T g w') (fun vs _ => ops.length - (intOf (vs.getD 0 undef)).toNat) ⟨0, _, Nat.zero_le _, Nat.zero_le _, rfl, by rw [List.take_zero]; exact Reach.nil, hT0⟩ ?_
  rintro dv vs w2 - ⟨i, T, hi, hi60, e0, hR, hT⟩
  have hmx : ops.length ≤ 9223372036854775807 := Nat.le_trans hmax (by decide)
  simp (disch := first | assumption | omega) only [e0, PX, BX]
  refine ⟨fun hlt => ⟨fun hlt6 => ?_, fun hge6 => ?_⟩, fun hge => ?_⟩
  rotate_left
  · unfold flotillalaw13_led_k1
    obtain rfl : i = 60 := by omega
    exact ⟨g, T, rfl, hg, hR, hT⟩
  · obtain rfl : i = ops.length := by omega
    refine ⟨g, T, rfl, hg, ?_, hT⟩
    rw [List.take_length] at hR
    rw [List.take_of_length_le hi60]; exact hR
  have hi' : i < ops.length := by omega
  obtain ⟨a, c', hac, hcell⟩ := op_at hr hi'
  injection hac with q1 q2 q3
  subst q1
  have hR1 := fun new => Reach.snoc new ops[i] hR
  rw [← List.take_succ_eq_append_getElem hi'] at hR1
  have hok : okT T i := by have := hR.ok; rwa [List.length_take, Nat.min_eq_left hi] at this
  simp (disch := first | assumption | omega) only [PX]
  rw [step_run (run_sLoad (op_load (hcell w2 hT.1)))]
  refine st_call (short_spec ops[i] w2) ?_
  rintro _ w3 ⟨rfl, hU3⟩
  have hT3 := hT.upd hU3
  have again : ∀ {w' : World} {T' : Tb}, Reach (ops.take (i + 1)) T' → TbAt W [] F T' g w' → ∀ Q, flotillalaw13_led_k3 (std Try.prog) vs (fun vs' w' => (∃ (i : Nat) (T : Tb), i ≤ ops.length ∧ i ≤ 60 ∧ vs'.getD 0 undef = .int .i64 i ∧ Reach (ops.take i) T ∧ TbAt W [] F T g w') ∧ ops.length - (intOf (vs'.getD 0 undef)).toNat < ops.length - (intOf (Value.int .i64 i)).toNat) w' Q := fun {w'} {T'} hR' hT' Q => by
    unfold flotillalaw13_led_k3
    simp (disch := omega) only [e0, PX, w64]
    refine ⟨⟨i + 1, T', by omega, by omega, rfl, hR', hT'⟩, ?_⟩
    simp only [List.getD_cons_zero, intOf]; omega
  simp only [PX]
  rw [bool_var]
  refine ⟨fun hs => ?_, fun hs => ?_⟩
  · have hs : shortB ops[i] = false := by simpa using hs
    refine again ?_ hT3 _
    have := hR1 0
    unfold stepS at this
    rwa [if_neg (by rw [hs]; exact Bool.false_ne_true)] at this
  have hs : shortB ops[i] = true := by simpa using hs
  have hst : ∀ new, stepS T new ops[i] = stepT T new ops[i] := fun new => by unfold stepS; rw [if_pos hs]
  simp only [hst] at hR1
  have k0 := hcell w3 hT3.1 0 _ rfl
  have k1 := hcell w3 hT3.1 1 _ rfl
  simp (disch := first | assumption | omega) only [PX, BX, LX, add_add']
  unfold stepT at hR1
  refine ⟨fun hk0 => ?_, fun hk0 => ⟨fun hk1 => ?_, fun hk1 => ⟨fun hk2 => ?_, fun hk2 => ?_⟩⟩⟩
  · simp only [if_pos hk0] at hR1
    have hTd := hT3.upd (Upd.drew w3 [])
    have hne : ∃ w', (fun w' => Upd W w' []) w' := ⟨_, hTd.1⟩
    have s1 : ∀ w', Upd W w' [] → w'.cell? (a.add (i * 4 + 1)) = some (.int .i64 ops[i].txn) := fun w' h => hcell w' h 1 _ rfl
    refine st_draw (fun w' => Upd W w' []) hTd.1 ?_
    simp (disch := first | exact hne | assumption | omega) only [SX, SLX, add_add']
    rw [stepS_run hne fun w' hw => run_sLoad (op_want (hcell w' hw))]
    refine st_call (Ask_spec hTd _ _ (ask_small hok (by omega) _) (by unfold shortB at hs; simp at hs; omega)) ?_
    rintro _ w4 ⟨new, rfl, hT4⟩
    exact st_keepT (fun _ => True) trivial (again (hR1 new) hT4 _)
  · simp only [if_neg hk0, if_pos hk1] at hR1
    refine st_call (Free_spec hT3 hok (by omega) _) ?_
    intro _ w4 hG
    exact again (hR1 0) hG.tb _
  · simp only [if_neg hk0, if_neg hk1, if_pos hk2] at hR1
    refine st_call (Cancel_spec hT3 hok (by omega) _) ?_
    intro _ w4 hG
    exact again (hR1 0) hG.tb _
  · simp only [if_neg hk0, if_neg hk1, if_neg hk2] at hR1
    exact again (hR1 0) hT3 _
end
end Go.Proofs.Ytakifgecgmdjcaa
