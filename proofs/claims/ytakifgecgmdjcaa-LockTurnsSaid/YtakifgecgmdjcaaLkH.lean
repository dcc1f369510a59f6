/- Locks: Ask, put together. -/
import Derived.Test.YtakifgecgmdjcaaLkG
namespace Go.Proofs.Ytakifgecgmdjcaa
open Go Xf Go.RowKit
set_option linter.unusedVariables false
set_option linter.unusedSimpArgs false
set_option maxRecDepth 100000

section
variable {W w w' : World} {ks : List Nat} {F G : List (Nat × Obj)} {T : Tb} {g : Nat} {K : Value → World → Prop}
def smallN (n : Nm) : Prop := n.turns.length ≤ 1000000 ∧ n.row.length ≤ 1000000
theorem Ask_k4 {b gn : Nat} {v : Wt} {n : Nm} {txn : Int} {Q : Value → World → Prop} (h : TbAt W ks (wtBx b v :: F) T g w) (hn : aGet T.names v.name = some (gn, n)) (hl : smallN n)
    (hQ : ∀ w', TbAt W ks (wtBx b v :: F) ⟨aSet T.names v.name (gn, queueN n txn), aSet T.waits txn v⟩ g w' → Q (askV false 0) w') :
    lock_Table_Ask_k4 (std Try.prog) (.pointer (some ⟨g, 0, none⟩)) (.int .i64 txn) (.pointer (some ⟨b, 0, none⟩)) (.pointer (some ⟨gn, 0, none⟩)) (.bool (aGet n.held txn).isSome) w Q := by
  unfold lock_Table_Ask_k4
  obtain ⟨bh, oh, vt, vr, c0, c1, c2, -⟩ := h.name hn
  simp (disch := first | assumption | omega) only [PX, LX, add_mk, Nat.reduceAdd]
  rw [bool_var]
  refine ⟨fun his => ?_, fun his => ?_⟩
  · refine h.pushT hn c1 hl.1 txn ?_
    intro w1 h1
    refine Ask_k5 h1 fun w' h' => hQ w' ?_
    unfold queueN
    rw [if_pos his]; exact h'
  · refine h.pushR hn c2 hl.2 txn ?_
    intro w1 h1
    refine Ask_k5 h1 fun w' h' => hQ w' ?_
    unfold queueN
    rw [if_neg (by rw [his]; exact Bool.false_ne_true)]; exact h'
theorem Ask_gets {b gn : Nat} {v : Wt} {n : Nm} {txn m : Int} {Q : Value → World → Prop} (h : TbAt W ks (wtBx b v :: F) T g w) (hn : aGet T.names v.name = some (gn, n))
    (hQ : ∀ w', TbAt W ks (wtBx b v :: F) (putN T v.name (gn, { n with held := aSet n.held txn m })) g w' → Q (askV true 0) w') :
    (std Try.prog).step (sNil (.pointer (some ⟨gn, 0, none⟩))) w fun a w => (std Try.prog).step (sFieldAddr 69 a 0) w fun a w => (std Try.prog).step (sLoad 67 a) w fun u w => (std Try.prog).step (sMapUpdate 67 u (.int .i64 txn) (.int .i64 m)) w fun _ w => Q (.tuple #[.bool true, .int .i64 0]) w := by
  obtain ⟨bh, oh, vt, vr, c0, c1, c2, -⟩ := h.name hn
  simp (disch := first | assumption | omega) only [PX, LX, add_mk, Nat.reduceAdd]
  exact h.heldSet hn c0 txn m hQ
theorem Ask_k3 {b gn : Nat} {v : Wt} {n : Nm} {txn : Int} {Q : Value → World → Prop} (h : TbAt W ks (wtBx b v :: F) T g w) (hn : aGet T.names v.name = some (gn, n)) (hl : smallN n) (hc : covB n txn v.mode = false)
    (hQ : ∀ w', TbAt W ks (wtBx b v :: F) (askAt T (gn, n) txn v).1 g w' → Q (askV (askAt T (gn, n) txn v).2 0) w') :
    lock_Table_Ask_k3 (std Try.prog) (.pointer (some ⟨g, 0, none⟩)) (.int .i64 txn) (.pointer (some ⟨b, 0, none⟩)) (.pointer (some ⟨gn, 0, none⟩)) (.bool (aGet n.held txn).isSome) w Q := by
  unfold lock_Table_Ask_k3
  unfold askAt at hQ
  rw [if_neg (by rw [hc]; exact Bool.false_ne_true)] at hQ
  obtain ⟨b0, b1⟩ := wt_cells (h.at_ (List.mem_cons_self ..))
  simp (disch := first | assumption | omega) only [PX, LX, add_mk, Nat.reduceAdd]
  refine st_call (h.would hn txn v.mode) ?_
  rintro _ w1 ⟨rfl, h1⟩
  have h1 := h1.upd (Upd.drew w1 [])
  refine st_draw (fun _ => True) trivial ?_
  refine st_call (h1.goes hn txn _) ?_
  rintro _ w2 ⟨rfl, h2⟩
  obtain ⟨bh, oh, vt, vr, c0, c1, c2, hg, -, -, r1, r2⟩ := h2.name hn
  obtain ⟨A1, n1, rfl, -⟩ := r1
  obtain ⟨A2, n2, rfl, -⟩ := r2
  let S : World → Prop := fun w' => w'.heap[gn]? = some (nmO bh (.slice A1 n.turns.length n1) (.slice A2 n.row.length n2))
  have hS : S w2 := hg
  have hne : ∃ w', S w' := ⟨_, hS⟩
  have e1 : ∀ w', S w' → w'.cell? ⟨gn, 1, none⟩ = some (.slice A1 n.turns.length n1) := fun w' hs => (cell_at hs).trans rfl
  have e2 : ∀ w', S w' → w'.cell? ⟨gn, 2, none⟩ = some (.slice A2 n.row.length n2) := fun w' hs => (cell_at hs).trans rfl
  refine st_keepT S hS ?_
  rw [bool_var]
  refine ⟨fun hgo => ?_, fun hgo => ?_⟩
  · rw [bool_var]
    refine ⟨fun his => ?_, fun his => ?_⟩
    · refine Ask_gets h2 hn fun w' h' => ?_
      have : getsB n txn v.mode = true := by unfold getsB; rw [hgo, his]; rfl
      rw [if_pos this] at hQ
      exact hQ w' h'
    · simp (disch := first | exact hne | assumption | omega) only [SX, SLX, add_mk, Nat.reduceAdd]
      rw [w64 (by have := hl.1; have := hl.2; omega) (by have := hl.1; have := hl.2; omega)]
      rw [bool_dec]
      refine ⟨fun h0 => ?_, fun h0 => ?_⟩
      · refine Ask_gets h2 hn fun w' h' => ?_
        have : getsB n txn v.mode = true := by unfold getsB; rw [hgo, his, decide_eq_true (by omega)]; rfl
        rw [if_pos this] at hQ
        exact hQ w' h'
      · refine Ask_k4 h2 hn hl fun w' h' => ?_
        have : getsB n txn v.mode = false := by unfold getsB; rw [hgo, his, decide_eq_false (by omega)]; rfl
        rw [if_neg (by rw [this]; exact Bool.false_ne_true)] at hQ
        exact hQ w' h'
  · refine Ask_k4 h2 hn hl fun w' h' => ?_
    have : getsB n txn v.mode = false := by unfold getsB; rw [hgo]; rfl
    rw [if_neg (by rw [this]; exact Bool.false_ne_true)] at hQ
    exact hQ w' h'
theorem Ask_k2 {b gn : Nat} {v : Wt} {n : Nm} {txn : Int} {Q : Value → World → Prop} (h : TbAt W ks (wtBx b v :: F) T g w) (hn : aGet T.names v.name = some (gn, n)) (hl : smallN n)
    (hQ : ∀ w', TbAt W ks (wtBx b v :: F) (askAt T (gn, n) txn v).1 g w' → Q (askV (askAt T (gn, n) txn v).2 0) w') :
    lock_Table_Ask_k2 (std Try.prog) (.pointer (some ⟨g, 0, none⟩)) (.int .i64 txn) (.pointer (some ⟨b, 0, none⟩)) (.pointer (some ⟨gn, 0, none⟩)) w Q := by
  unfold lock_Table_Ask_k2
  obtain ⟨b0, b1⟩ := wt_cells (h.at_ (List.mem_cons_self ..))
  obtain ⟨bh, oh, vt, vr, c0, c1, c2, hg, hm, hmap, r1, r2⟩ := h.name hn
  simp (disch := first | assumption | omega) only [PX, LX, add_mk, Nat.reduceAdd]
  rw [step_run (run_lookup uHeld keyI_ok ze28 hm hmap txn true)]
  rw [if_pos rfl, modes_get]
  simp (disch := first | assumption | omega) only [PX, LX, add_mk, Nat.reduceAdd]
  rw [bool_var]
  refine ⟨fun his => ?_, fun his => ?_⟩
  · obtain ⟨has, hh⟩ := Option.isSome_iff_exists.1 his
    rw [hh, Option.getD_some]
    refine st_call (Covers_spec w has v.mode) ?_
    rintro _ w1 ⟨rfl, hU1⟩
    have h1 := h.upd hU1
    rw [bool_var]
    have hcov : covB n txn v.mode = cov (sureN has) (sureN v.mode) := by unfold covB; rw [hh]
    refine ⟨fun hc => ?_, fun hc => ?_⟩
    · have : covB n txn v.mode = true := by rw [hcov]; exact hc
      unfold askAt at hQ
      rw [if_pos this] at hQ
      refine hQ w1 ?_
      have e : putN T v.name (gn, n) = T := by unfold putN; rw [aSet_same hn]
      rw [e]; exact h1
    · exact hh ▸ Ask_k3 h1 hn hl (by rw [hcov]; exact hc) hQ
  · have hc : covB n txn v.mode = false := by
      unfold covB
      cases hh : aGet n.held txn with
      | none => rfl
      | some x => rw [hh] at his; cases his
    exact Ask_k3 h hn hl hc hQ
end
end Go.Proofs.Ytakifgecgmdjcaa
