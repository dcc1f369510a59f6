/- Locks: LockTurns. -/
import Derived.Test.YtakifgecgmdjcaaLkAM
namespace Go.Proofs.Ytakifgecgmdjcaa
open Go Xf Go.RowKit
set_option linter.unusedVariables false
set_option linter.unusedSimpArgs false
set_option maxRecDepth 100000

def opBx (b : Nat) (o : LOp) : Nat × Obj := (b, .cells (opV o).toArray 32 (0, 0))
theorem op_cells {w : World} {b : Nat} {o : LOp} (h : w.heap[b]? = some (opBx b o).2) : w.cell? ⟨b, 0, none⟩ = some (.int .i64 o.kind) ∧ w.cell? ⟨b, 1, none⟩ = some (.int .i64 o.txn) ∧ w.cell? ⟨b, 2, none⟩ = some (strV o.want.name) ∧ w.cell? ⟨b, 3, none⟩ = some (.int .i64 o.want.mode) :=
  ⟨(cell_at h).trans rfl, (cell_at h).trans rfl, (cell_at h).trans rfl, (cell_at h).trans rfl⟩
theorem op_boxload {w : World} {b : Nat} {o : LOp} (h : w.heap[b]? = some (opBx b o).2) : (loadVar 32 ⟨b, 0, none⟩).run Try.prog w = .ok (.agg (opV o).toArray) w :=
  run_loadVarN (cs := opV o) ag32 (by rw [sz32]; rfl) (cells_read (cs := (opV o).toArray) h)
theorem op_boxwant {w : World} {b : Nat} {o : LOp} (h : w.heap[b]? = some (opBx b o).2) : (loadVar 30 ⟨b, 2, none⟩).run Try.prog w = .ok (wtV o.want) w :=
  run_loadVarN (cs := [strV o.want.name, .int .i64 o.want.mode]) ag30 (by rw [sz30]; rfl) fun j v hj => by
    rw [add_mk, cell_at h]
    match j with
    | 0 => exact hj
    | 1 => exact hj
    | j + 2 => simp at hj
theorem Fine.ask {T : Tb} {B : Nat} (h : Fine T B) (new : Nat) (txn : Int) (v : Wt) (ho : in64 txn) : Fine (askT T new txn v).1 (B + 1) := ⟨askT_ok new txn v h.ok, askT_sz new txn v h.sz, askT_good h.good new txn v ho⟩
theorem askT_no {T : Tb} {new : Nat} {txn : Int} {v : Wt} (h : (askT T new txn v).2.2 ≠ 0) : (askT T new txn v).2.1 = false := by
  unfold askT at h ⊢
  by_cases hok : argsOk txn v
  · rw [if_pos hok] at h ⊢
    by_cases hw : (aGet T.waits txn).isSome = true
    · rw [if_pos hw]
    · rw [if_neg hw] at h; exact absurd rfl h
  · rw [if_neg hok]
section
variable {W w w' : World} {F : List (Nat × Obj)} {g : Nat} {T : Tb} {K : Value → World → Prop}
theorem Turns_lives {Q : Value → World → Prop} (hU : Upd W w []) (hQ : ∀ w', Upd W w' [] → Q (.bool true) w') : (std Try.prog).calls 13 #[] w Q :=
  st_call (lives_spec hU (Owns.nil w)) fun u w' ⟨h1, h2⟩ => by subst h1; exact hQ w' h2
theorem Turns_k2 {got : Bool} {e : Int} (hU : Upd W w []) (hge : e ≠ 0 → got = false) : flotillalaw13_LockTurns_k2 (std Try.prog) (.bool got) (.int .i64 e) w fun r w' => r = .bool true ∧ Upd W w' [] := by
  unfold flotillalaw13_LockTurns_k2 flotillalaw13_LockTurns_k3
  simp (disch := omega) only [PX, BX]
  refine ⟨fun h0 => Turns_lives hU fun w' h => ⟨rfl, h⟩, fun h0 => ?_⟩
  rw [hge h0]
  rw [bool_var]
  exact ⟨fun h => (by cases h), fun _ => Turns_lives hU fun w' h => ⟨rfl, h⟩⟩
theorem Turns_k1 {B b3 : Nat} {o : LOp} {v7 : Value} {ah : List Int} {hA : List (Nat × Obj)} (hT : TbAt W [] F T g w) (hfine : Fine T B) (hB5 : B ≤ 400) (ho : okO o) (hs : shortB o = true) (hb3 : opBx b3 o ∈ F) (hrA : RowH 3 1 v7 ah.length (intsV .i64 ah) hA) (hAs : ∀ p ∈ hA, p ∈ F) (hal : ah.length ≤ 1000000)
    (hah : ∀ y ∈ ah, ∃ wy, aGet T.waits y = some wy ∧ wy.name = o.want.name) :
    flotillalaw13_LockTurns_k1 (std Try.prog) (.pointer (some ⟨b3, 0, none⟩)) (.pointer (some ⟨g, 0, none⟩)) v7 w fun r w' => r = .bool true ∧ Upd W w' [] := by
  unfold flotillalaw13_LockTurns_k1
  obtain ⟨c0, c1, c2, c3⟩ := op_cells (hT.at_ hb3)
  obtain ⟨A, c, rfl⟩ := RowH.sl' hrA
  simp (disch := first | assumption | omega) only [PX, LX, add_mk, Nat.reduceAdd]
  refine st_call (has_spec hT hfine.ok (by omega) o.txn o.want.name) ?_
  rintro _ w1 ⟨rfl, hT1⟩
  obtain ⟨c0, c1, c2, c3⟩ := op_cells (hT1.at_ hb3)
  simp (disch := first | assumption | omega) only [PX, LX, add_mk, Nat.reduceAdd]
  rw [step_run (run_sLoad (op_boxwant (hT1.at_ hb3)))]
  refine st_call (Ask_spec hT1 _ _ (ask_small hfine.ok (by omega) _) (by unfold shortB at hs; simp at hs; omega)) ?_
  rintro _ w2 ⟨new, rfl, hT2⟩
  have hno := askT_no (T := T) (new := new) (txn := o.txn) (v := o.want)
  have hfine2 := hfine.ask new o.txn o.want ho.2.1
  have hpl := fun he hn => @turns_plain T B hfine new o.txn o.want he hn
  unfold askV
  generalize hr : askT T new o.txn o.want = r at hT2 hno hfine2 hpl
  obtain ⟨T', got, e⟩ := r
  simp only at hT2 hno hfine2 hpl
  simp (disch := omega) only [PX, BX]
  refine ⟨fun he => Turns_k2 hT2.1 fun _ => hno he, fun he => ?_⟩
  have he : e = 0 := Decidable.not_not.1 he
  subst he
  rw [bool_var]
  refine ⟨fun hhas => Turns_k2 hT2.1 fun h => absurd rfl h, fun hhas => ?_⟩
  have hhas : hasT T o.txn o.want.name = none := by
    cases hh : hasT T o.txn o.want.name with
    | none => rfl
    | some m => rw [hh] at hhas; cases hhas
  simp (disch := omega) only [PX, BX]
  refine ⟨fun hlen => ?_, fun hlen => ?_⟩
  · refine ⟨fun _ => ?_, fun h => absurd (by first | rfl | trivial) h⟩
    unfold flotillalaw13_LockTurns_k4
    exact Turns_lives hT2.1 fun w' h => ⟨rfl, h⟩
  have hne : ah ≠ [] := fun h => by subst h; exact hlen (by simp)
  obtain ⟨y0, t, hy0⟩ := List.exists_cons_of_ne_nil hne
  obtain ⟨wy0, hw0, hn0⟩ := hah y0 (by rw [hy0]; exact List.mem_cons_self ..)
  obtain ⟨hgot, hedge⟩ := hpl rfl hhas hw0 hn0
  rw [hgot, bool_var]
  refine ⟨fun h => (by cases h), fun _ => ?_⟩
  refine st_call (Edges_spec hT2 hfine2 (by omega)) ?_
  rintro v w3 ⟨L, ⟨hl, hrL, hT3, hm3⟩, -, hmem, hLl⟩
  have hRL := hrL.ed (F := F) hT3.owns (by omega)
  refine st_loop (fun vs w' => ∃ i : Nat, i ≤ ah.length ∧ vs.getD 0 undef = .int .i64 i ∧ Upd w3 w' []) (fun vs _ => ah.length - (intOf (vs.getD 0 undef)).toNat) ⟨0, Nat.zero_le _, rfl, Upd.refl _ _⟩ ?_
  rintro dv vs w4 - ⟨i, hi, e0, hU4⟩
  simp (disch := first | assumption | omega) only [e0, PX, BX]
  refine ⟨fun hlt => ?_, fun hge => ?_⟩
  rotate_left
  · unfold flotillalaw13_LockTurns_k5
    exact Turns_lives (hT3.upd hU4).1 fun w' h => ⟨rfl, h⟩
  have hi' : i < ah.length := by omega
  have hT4 := (hT3.upd hU4).upd (Upd.drew w4 [])
  obtain ⟨a, c', hq, hcell⟩ := int_at (hT4.rdI hrA fun p hp => List.mem_append_right _ (hAs p hp)) hi'
  injection hq with q1 q2 q3
  subst q1
  let S : World → Prop := fun w' => w'.heap[b3]? = some (opBx b3 o).2 ∧ w'.cell? (a.add i) = some (.int .i64 ah[i])
  have hS : S w4.drew := ⟨hT4.at_ (List.mem_append_right _ hb3), hcell⟩
  have hneS : ∃ w', S w' := ⟨_, hS⟩
  have s1 : ∀ w', S w' → w'.cell? ⟨b3, 1, none⟩ = some (.int .i64 o.txn) := fun w' hs => (op_cells hs.1).2.1
  have s2 : ∀ w', S w' → w'.cell? (a.add i) = some (.int .i64 ah[i]) := fun w' hs => hs.2
  refine st_draw S hS ?_
  simp (disch := first | exact hneS | assumption | omega) only [SX, SLX, add_mk, Nat.reduceAdd, Nat.mul_one]
  rw [step_run (build_ed _ _ _)]
  refine st_same hS ?_
  obtain ⟨wy, hwy, hny⟩ := hah ah[i] (List.getElem_mem hi')
  have hUd := hU4.trans (Upd.drew w4 [])
  refine st_call (At_spec (hRL.mono hUd) (by omega) (o.txn, ah[i]) ((hmem _).2 (hedge _ _ hwy hny))) ?_
  rintro _ w5 ⟨⟨j, rfl⟩, hU5⟩
  refine st_keepT (fun _ => True) trivial ?_
  simp (disch := first | exact ⟨w5, trivial⟩ | omega) only [SX]
  rw [bool_dec]
  refine ⟨fun h => absurd h (by omega), fun _ => ?_⟩
  simp (disch := omega) only [e0, PX, w64]
  refine ⟨⟨i + 1, by omega, rfl, hUd.trans hU5⟩, ?_⟩
  simp only [List.getD_cons_zero, intOf]; omega
end
end Go.Proofs.Ytakifgecgmdjcaa
