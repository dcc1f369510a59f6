/- Decode. -/
import Derived.Test.YtconmaojfkmlnaaRecR
namespace Go.Proofs.Ytconmaojfkmlnaa.Rec
open Go Go.Proofs.Ytconmaojfkmlnaa Go.Proofs.Ytconmaojfkmlnaa.Enc Xf Go.RowKit
set_option linter.unusedVariables false
set_option linter.unusedSimpArgs false
set_option maxRecDepth 100000

/-- a record in new memory -/
def NewRe (W w' : World) (v : Value) (r : Re) : Prop := ∃ vt vd ht hd, v = .agg (reV r vt vd).toArray ∧ RowH 51 3 vt r.ts.length (r.ts.flatMap txV) ht ∧ RowH 53 2 vd r.ds.length (r.ds.flatMap diV) hd ∧ (∀ p ∈ ht ++ hd, W.heap.size ≤ p.1) ∧ Owns w' (ht ++ hd) ∧ Upd W w' []
theorem NewRe.rd {W w' : World} {v : Value} {r : Re} (h : NewRe W w' v r) : RdRe w' v r := by
  obtain ⟨vt, vd, ht, hd, rfl, h1, h2, h3, h4, h5⟩ := h
  exact ⟨vt, vd, rfl, RdS.ofRow h1 (h4.sub (List.sublist_append_left _ _)), RdS.ofRow h2 (h4.sub (List.sublist_append_right _ _))⟩
theorem NewRe.upd {W w' : World} {v : Value} {r : Re} (h : NewRe W w' v r) : Upd W w' [] := by obtain ⟨_, _, _, _, _, _, _, _, _, h⟩ := h; exact h
theorem NewRe.base {W w1 w' : World} {v : Value} {r : Re} (h : NewRe w1 w' v r) (hU : Upd W w1 []) : NewRe W w' v r := by
  obtain ⟨vt, vd, ht, hd, h0, h1, h2, h3, h4, h5⟩ := h
  exact ⟨vt, vd, ht, hd, h0, h1, h2, fun p hp => Nat.le_trans hU.size (h3 p hp), h4, hU.trans h5⟩
theorem NewRe.ext {W w1 w' : World} {v : Value} {r : Re} (h : NewRe W w1 v r) (hU : Upd w1 w' []) : NewRe W w' v r := by
  obtain ⟨vt, vd, ht, hd, h0, h1, h2, h3, h4, h5⟩ := h
  exact ⟨vt, vd, ht, hd, h0, h1, h2, h3, h4.ext hU, h5.trans hU⟩
theorem NewRe.zero {W w' : World} (hU : Upd W w' []) : NewRe W w' (.agg (reV re0 nilS nilS).toArray) re0 := ⟨nilS, nilS, [], [], rfl, RowH.nil_ _ _, RowH.nil_ _ _, (fun p hp => by cases hp), Owns.nil _, hU⟩

theorem Owns.apart {w w' : World} {h : List (Nat × Obj)} {ks : List Nat} (hO : Owns w h) (hU : Upd w w' ks) (hn : ∀ p ∈ h, p.1 ∉ ks) : Owns w' h :=
  ⟨hO.1, fun p hp => by rw [hU.keep p.1 (hO.lt hp) (hn p hp)]; exact hO.2 p hp⟩
attribute [local irreducible] Go.wpOps
section
variable {ops : Array Oper} {Q : Exit → Act → World → Prop} {i d n : Nat} {ds : List Deferred} {rest : List Nat} {s : Nat → Value} {w w' : World} {o : Oper}
theorem wpB_val {v : Value} (ho : ops[i]? = some o) (hd : o.dst = some d) (hw : Region.wanted o (yielded ops (AT n ds s).tmps) = true) (hr : (execOp (AT n ds s).eval o).run Try.prog w = .ok (.value v) w') (h : wpOps Try.prog ops Q rest (AT n ds (upd s d v)) w') : wpOps Try.prog ops Q (i :: rest) (AT n ds s) w :=
  wpO_val ho hw hr (by rw [hd, AT_put]; exact h)
theorem wpB_skip (ho : ops[i]? = some o) (hd : o.dst = none) (hw : Region.wanted o (yielded ops (AT n ds s).tmps) = true) (hr : (execOp (AT n ds s).eval o).run Try.prog w = .ok .skip w') (h : wpOps Try.prog ops Q rest (AT n ds s) w') : wpOps Try.prog ops Q (i :: rest) (AT n ds s) w :=
  wpO_skip ho hw hr (by rw [hd]; exact h)
theorem wpB_call {f : FuncId} {args : Array Value} {R : Value → World → Prop} (ho : ops[i]? = some o) (hd : o.dst = some d) (hw : Region.wanted o (yielded ops (AT n ds s).tmps) = true) (hr : (execOp (AT n ds s).eval o).run Try.prog w = .ok (.enter f args) w') (hc : CallsR Try.prog f args w' R) (h : ∀ v w'', R v w'' → wpOps Try.prog ops Q rest (AT n ds (upd s d v)) w'') : wpOps Try.prog ops Q (i :: rest) (AT n ds s) w :=
  wpO_call ho hw hr hc fun v w'' hv => by rw [hd, AT_put]; exact h v w'' hv
theorem wpB_defer {df : Deferred} (ho : ops[i]? = some o) (hd : o.dst = none) (hw : Region.wanted o (yielded ops (AT n ds s).tmps) = true) (hr : (execOp (AT n ds s).eval o).run Try.prog w = .ok (.defer df) w') (h : wpOps Try.prog ops Q rest (AT n (df :: ds) s) w') : wpOps Try.prog ops Q (i :: rest) (AT n ds s) w :=
  wpO_defer ho hw hr (by rw [hd]; exact h)
/-- a call that returns or panics -/
theorem wpB_both {f : FuncId} {args : Array Value} {R : Ending → World → Prop} (ho : ops[i]? = some o) (hd : o.dst = some d) (hw : Region.wanted o (yielded ops (AT n ds s).tmps) = true) (hr : (execOp (AT n ds s).eval o).run Try.prog w = .ok (.enter f args) w') (hc : Calls Try.prog f args w' R) (hR : ∀ w'', ¬ R .outgrown w'') (h : ∀ v w'', R (.returned v) w'' → wpOps Try.prog ops Q rest (AT n ds (upd s d v)) w'') (hp : ∀ c w'', R (.panicked c) w'' → Q (.panic c) (AT n ds s) w'') : wpOps Try.prog ops Q (i :: rest) (AT n ds s) w := by
  refine wpO ho hw ?_
  rw [hr]
  refine Calls.mono hc fun e w'' he => ?_
  cases e with
  | returned v => show wpOps Try.prog ops Q rest ((AT n ds s).put o.dst v) w''; rw [hd, AT_put]; exact h v w'' he
  | panicked c => exact hp c w'' he
  | outgrown => exact absurd he (hR w'')
end
theorem wpO_nil {ops : Array Oper} {Q : Exit → Act → World → Prop} {a : Act} {w : World} (h : Q .normal a w) : wpOps Try.prog ops Q [] a w := by unfold wpOps; exact h

def DecR (W : World) (l : List UInt8) (e : Ending) (w' : World) : Prop := ∃ v x, e = .returned v ∧ v = .tuple #[x, .int .i64 ((decR l).2 : Nat)] ∧ NewRe W w' x (decR l).1

/-- the results are read behind the deferred function -/
theorem leave_dec {s : Nat → Value} {w : World} {gR gE e : Nat} {r : Re} {vt vd : Value} (s2 : s 2 = .pointer (some ⟨gR, 0, none⟩)) (s3 : s 3 = .pointer (some ⟨gE, 0, none⟩)) (hR : w.heap[gR]? = some (reO r vt vd)) (hE : w.heap[gE]? = some (.cells #[.int .i64 (e : Nat)] 34 (0, 0))) :
    (results Try.f10 (AT 8 [] s).tmps).run Try.prog w = .ok (.tuple #[.agg (reV r vt vd).toArray, .int .i64 (e : Nat)]) w := by
  obtain ⟨v, hv, hx⟩ := results_of (P := Try.prog) (fn := Try.f10) (Q := fun v w' => v = .tuple #[.agg (reV r vt vd).toArray, .int .i64 (e : Nat)]) (a := AT 8 [] s) (w := w) (show resV Try.prog (fun v w' => v = .tuple #[.agg (reV r vt vd).toArray, .int .i64 (e : Nat)]) (AT 8 [] s) w [.cell 2 33, .cell 3 34] [] from by
    show LoadR Try.prog 33 (s 2) _ _
    rw [s2]
    refine st_loadR (run_loadVarN (cs := reV r vt vd) ag33 (by rw [sz33]; rfl) (cells_read hR)) ?_
    show LoadR Try.prog 34 (s 3) _ _
    rw [s3]
    exact st_loadR (run_loadVar1 ag34 (cell_at hE)) rfl)
  rw [hv, hx]

theorem Decode_calls (W : World) (v : Value) (l : List UInt8) (hl : l.length ≤ 140737488355000) (hr : Rd W 1 v l.length (bytesV l)) : Calls Try.prog 10 #[v] W (DecR W l) := by
  refine calls_of_wp_defers Try.func10 rfl ?_
  rw [show Try.f10.ntmps = 8 by kernel_rfl, show (#[v] : Array Value) = [v].toArray from rfl, enter_AT]
  show Code.wp _ _ _ (AT 8 [] _) _
  apply wp_seq
  apply wp_region
  show wpOps _ _ _ [0, 1] _ _
  refine wpB_val (w' := W.alloc (.cells (reV re0 nilS nilS).toArray 33)) (v := .pointer (some ⟨W.heap.size, 0, none⟩)) rfl rfl rfl (run_sAlloc ze_re) ?_
  refine wpB_val (w' := (W.alloc (.cells (reV re0 nilS nilS).toArray 33)).alloc (.cells #[.int .i64 0] 34)) (v := .pointer (some ⟨(W.alloc (.cells (reV re0 nilS nilS).toArray 33)).heap.size, 0, none⟩)) rfl rfl rfl (run_sAlloc ze34) ?_
  have hO1 := ((Owns.nil W).alloc (.cells (reV re0 nilS nilS).toArray 33)).alloc (.cells #[.int .i64 0] 34)
  have hU1 : Upd W ((W.alloc (.cells (reV re0 nilS nilS).toArray 33)).alloc (.cells #[.int .i64 0] 34)) [] := (Upd.alloc W _ []).then_ (Upd.alloc _ _ []) fun x hx => by cases hx
  have hgE : W.heap.size ≤ (W.alloc (.cells (reV re0 nilS nilS).toArray 33)).heap.size := (Upd.alloc W _ []).size
  generalize hw1 : (W.alloc (.cells (reV re0 nilS nilS).toArray 33)).alloc (.cells #[.int .i64 0] 34) = w1 at hO1 hU1 ⊢
  generalize hE : (W.alloc (.cells (reV re0 nilS nilS).toArray 33)).heap.size = gE at hO1 hgE ⊢
  have hgR : W.heap.size ≤ W.heap.size := Nat.le_refl _
  generalize hR : W.heap.size = gR at hO1 hgR ⊢
  have hR : W.heap.size ≤ gR := by omega
  have hE : W.heap.size ≤ gE := by omega
  have hO1 : Owns w1 [errBlk gE 0, reBlk gR re0] := hO1
  apply wpO_nil
  generalize hs : upd _ 3 (Value.pointer (some ⟨gE, 0, none⟩)) = s1
  have f0 : s1 0 = v := by subst hs; rfl
  have f2 : s1 2 = .pointer (some ⟨gR, 0, none⟩) := by subst hs; rfl
  have f3 : s1 3 = .pointer (some ⟨gE, 0, none⟩) := by subst hs; rfl
  clear hs
  show Code.wp _ _ _ (AT 8 [] s1) w1
  apply wp_seq
  apply wp_region
  show wpOps _ _ _ [0, 1] _ _
  refine wpB_val (w' := w1) (v := .func (.func 23) #[] #[.pointer (some ⟨gR, 0, none⟩), .pointer (some ⟨gE, 0, none⟩)]) rfl rfl rfl (by rw [← semX_eq]; show (sMakeFunc (.func 23) [] [s1 2, s1 3]).run Try.prog w1 = _; rw [f2, f3]; rfl) ?_
  refine wpB_defer (w' := w1) (df := { target := .fn (.func 23) #[.pointer (some ⟨gR, 0, none⟩), .pointer (some ⟨gE, 0, none⟩)], args := #[] }) rfl rfl rfl (by kernel_rfl) ?_
  apply wpO_nil
  generalize hs : upd s1 4 _ = s2
  have f0 : s2 0 = v := by subst hs; exact f0
  have f2 : s2 2 = .pointer (some ⟨gR, 0, none⟩) := by subst hs; exact f2
  have f3 : s2 3 = .pointer (some ⟨gE, 0, none⟩) := by subst hs; exact f3
  clear hs
  show Code.wp _ _ _ (AT 8 _ s2) w1
  apply wp_seq
  apply wp_region
  show wpOps _ _ _ [0, 1, 2, 3, 4] _ _
  refine wpB_val (w' := w1) (v := v) rfl rfl rfl (by show Sem.run Try.prog (pure (Next.value (s2 0))) w1 = _; rw [f0]; rfl) ?_
  refine wpB_call (f := 25) (args := #[v]) (w' := w1) rfl rfl rfl (by kernel_rfl) (Read_spec w1 v l hl (hr.mono hU1)) ?_
  rintro _ w2 ⟨g, hb, rfl, hI, -⟩
  have hO2 := hO1.ext hI.mid
  refine wpB_both (f := 24) (args := #[.pointer (some ⟨g, 0, none⟩)]) (w' := w2) rfl rfl rfl (by kernel_rfl) (read_spec hI) ?_ ?_ ?_
  · rintro w'' (⟨_, _, _, _, _, h, _⟩ | ⟨_, h, _⟩) <;> cases h
  · -- a record
    rintro u w3 (⟨hre, vt, vd, ht, hd, he, r1, r2, r3, r4, r5⟩ | ⟨_, h, _⟩)
    · injection he with he
      subst he
      have hU3 := hU1.trans r5
      have hO3 : Owns w3 [errBlk gE 0, reBlk gR re0] := hO1.ext r5
      have hsz : ∀ p ∈ ht ++ hd, gE < p.1 ∧ gR < p.1 := fun p hp => by
        have := r3 p hp
        have h1 := hO1.lt (p := errBlk gE 0) (by simp)
        have h2 := hO1.lt (p := reBlk gR re0) (by simp)
        exact ⟨by simp only [errBlk] at h1; omega, by simp only [reBlk] at h2; omega⟩
      have hst := run_storeN (P := Try.prog) (w := w3) (t := 33) (g := gR) (off := 0) (vs := reV (gAll l).1 vt vd) (by rw [sz33]; rfl) (hO3.at_ 1 rfl) (by simp [reV]) (reV_one _ (RowH.one r1).1 (RowH.one r2).1)
      refine wpB_skip rfl rfl rfl (by
        show (sStore 33 (upd (upd (upd s2 5 v) 6 (.pointer (some ⟨g, 0, none⟩))) 7 (.agg (reV (gAll l).1 vt vd).toArray) 2) (.agg (reV (gAll l).1 vt vd).toArray)).run Try.prog w3 = _
        rw [show upd (upd (upd s2 5 v) 6 (.pointer (some ⟨g, 0, none⟩))) 7 (.agg (reV (gAll l).1 vt vd).toArray) 2 = s2 2 from rfl, f2]; exact hst) ?_
      have hU4 := hU3.then_ (Upd.setRow w3 gR (List.take 0 (reV re0 nilS nilS).toArray.toList ++ reV (gAll l).1 vt vd ++ List.drop (0 + (reV (gAll l).1 vt vd).length) (reV re0 nilS nilS).toArray.toList).toArray) fun x hx => by simp at hx; subst hx; exact .inr hR
      have hO4 := hO3.setRow 1 (g := gR) rfl (List.take 0 (reV re0 nilS nilS).toArray.toList ++ reV (gAll l).1 vt vd ++ List.drop (0 + (reV (gAll l).1 vt vd).length) (reV re0 nilS nilS).toArray.toList).toArray
      have hO4 : Owns _ [errBlk gE 0, (gR, reO (gAll l).1 vt vd)] := hO4
      generalize hw4 : w3.setRow gR _ = w4 at hU4 hO4 ⊢
      have hU34 : Upd w3 w4 [gR] := by subst hw4; exact Upd.setRow _ _ _
      have hst2 := run_sStore1 (P := Try.prog) (w := w4) (t := 34) (a := ⟨gE, 0, none⟩) (v := .int .i64 0) sz34 rfl (cell_at (hO4.at_ 0 rfl)) (frozen_at (hO4.at_ 0 rfl) (.inr (Nat.zero_le _)))
      refine wpB_skip rfl rfl rfl (by
        show (sStore 34 (upd (upd (upd s2 5 v) 6 (.pointer (some ⟨g, 0, none⟩))) 7 (.agg (reV (gAll l).1 vt vd).toArray) 3) (.int .i64 0)).run Try.prog w4 = _
        rw [show upd (upd (upd s2 5 v) 6 (.pointer (some ⟨g, 0, none⟩))) 7 (.agg (reV (gAll l).1 vt vd).toArray) 3 = s2 3 from rfl, f3]; exact hst2) ?_
      have hO5 := hO4.setCell 0 (g := gE) (off := 0) rfl (.int .i64 0)
      have hU45 : Upd w4 (w4.setCell ⟨gE, 0, none⟩ (.int .i64 0)) [gE] := Upd.setCell _ _ _
      generalize w4.setCell ⟨gE, 0, none⟩ (.int .i64 0) = w5 at hO5 hU45 ⊢
      have hO5 : Owns w5 [errBlk gE 0, (gR, reO (gAll l).1 vt vd)] := hO5
      have hU5 : Upd W w5 [] := hU4.then_ hU45 fun x hx => by simp at hx; subst hx; exact .inr hE
      have hrows : Owns w5 (ht ++ hd) := by
        have h4 := Owns.apart r4 hU34 fun p hp => by have := (hsz p hp).2; simp; omega
        exact Owns.apart h4 hU45 fun p hp => by have := (hsz p hp).1; simp; omega
      apply wpO_nil
      apply wp_ret
      generalize hs : upd (upd (upd s2 5 v) 6 (.pointer (some ⟨g, 0, none⟩))) 7 (.agg (reV (gAll l).1 vt vd).toArray) = s3
      have f2 : s3 2 = .pointer (some ⟨gR, 0, none⟩) := by subst hs; exact f2
      have f3 : s3 3 = .pointer (some ⟨gE, 0, none⟩) := by subst hs; exact f3
      show Leaves Try.prog Try.f10 (AT 8 [] s3).tmps (DecR W l) [{ target := .fn (.func 23) #[.pointer (some ⟨gR, 0, none⟩), .pointer (some ⟨gE, 0, none⟩)], args := #[] }] .returning w5
      refine leaves_cons (f := 23) (args := #[.pointer (some ⟨gR, 0, none⟩), .pointer (some ⟨gE, 0, none⟩)]) (by simp) (by kernel_rfl) ?_
      refine (catch_idle gR gE w5).mono ?_
      rintro e u' w6 ⟨⟨x, rfl⟩, rfl, hU6⟩
      have hO6 := hO5.ext hU6
      have hd2 : decR l = ((gAll l).1, 0) := by unfold decR; rw [if_pos hre]
      refine ⟨_, leave_dec f2 f3 (hO6.at_ 1 rfl) (hO6.at_ 0 rfl), _, _, rfl, by rw [hd2], ?_⟩
      rw [hd2]
      exact ⟨vt, vd, ht, hd, rfl, r1, r2, fun p hp => Nat.le_trans hU1.size (r3 p hp), hrows.ext hU6, hU5.trans hU6⟩
    · cases h
  · -- none
    rintro c w3 (⟨_, _, _, _, _, h, _⟩ | ⟨hre, he, r5⟩)
    · cases h
    injection he with he
    subst he
    have hU3 := hU1.trans r5
    have hO3 : Owns w3 [reBlk gR re0, errBlk gE 0] := (hO1.ext r5).perm (List.Perm.swap _ _ _)
    generalize hs : upd (upd s2 5 v) 6 (.pointer (some ⟨g, 0, none⟩)) = s3
    have f2 : s3 2 = .pointer (some ⟨gR, 0, none⟩) := by subst hs; exact f2
    have f3 : s3 3 = .pointer (some ⟨gE, 0, none⟩) := by subst hs; exact f3
    show Leaves Try.prog Try.f10 (AT 8 [] s3).tmps (DecR W l) [{ target := .fn (.func 23) #[.pointer (some ⟨gR, 0, none⟩), .pointer (some ⟨gE, 0, none⟩)], args := #[] }] (.panicking faultC) w3
    refine leaves_cons (f := 23) (args := #[.pointer (some ⟨gR, 0, none⟩), .pointer (some ⟨gE, 0, none⟩)]) (by simp) (by kernel_rfl) ?_
    refine (catch_fault (W := W) gR gE 0 re0 [] w3 hO3 hU3 (.inr hR) (.inr hE)).mono ?_
    rintro e u' w6 ⟨⟨x, rfl⟩, rfl, hU6, hO6⟩
    have hd2 : decR l = (re0, 5) := by unfold decR; rw [if_neg hre]
    show Leaves Try.prog Try.f10 (AT 8 [] s3).tmps (DecR W l) [] .returning w6
    refine ⟨_, leave_dec f2 f3 (hO6.at_ 0 rfl) (hO6.at_ 1 rfl), _, _, rfl, by rw [hd2], ?_⟩
    rw [hd2]
    exact NewRe.zero hU6
theorem Decode_spec (W : World) (v : Value) (l : List UInt8) (hl : l.length ≤ 140737488355000) (hr : Rd W 1 v l.length (bytesV l)) : CallsR Try.prog 10 #[v] W fun u w' => ∃ x, u = .tuple #[x, .int .i64 ((decR l).2 : Nat)] ∧ NewRe W w' x (decR l).1 :=
  Calls.mono (Decode_calls W v l hl hr) fun e w' ⟨u, x, h1, h2, h3⟩ => ⟨u, h1, x, h2, h3⟩
end Go.Proofs.Ytconmaojfkmlnaa.Rec
