/- A record's bytes, as the document has them. -/
import Derived.Test.YtconmaojfkmlnaaRecF
namespace Go.Proofs.Ytconmaojfkmlnaa.Rec
open Go Go.Proofs.Ytconmaojfkmlnaa Go.Proofs.Ytconmaojfkmlnaa.Enc Xf Go.RowKit
set_option linter.unusedVariables false
set_option linter.unusedSimpArgs false
set_option maxRecDepth 100000

theorem px_cat {x y : Operand} {a b : List UInt8} {w : World} {K : Value → World → Prop} (h : a.length + b.length ≤ 9223372036854775807) : (std Try.prog).step (sBin .add 9 x y (.string ⟨a.toArray⟩) (.string ⟨b.toArray⟩)) w K = K (.string ⟨(a ++ b).toArray⟩) w := by
  rw [px_sadd (by rw [size_mk, size_mk]; exact h), mk_append]
theorem sx_cat {x y : Operand} {a b : List UInt8} {S : World → Prop} {k : Value → Prop} (hne : ∃ w, S w) (h : a.length + b.length ≤ 9223372036854775807) : (std Try.prog).stepS S (sBin .add 9 x y (.string ⟨a.toArray⟩) (.string ⟨b.toArray⟩)) k = k (.string ⟨(a ++ b).toArray⟩) := by
  rw [sx_sadd (by rw [size_mk, size_mk]; exact h) hne, mk_append]

theorem Bytes_spec (w : World) (v : Value) (r : Re) (hok : okP r) (h : RdRe w v r) : CallsR Try.prog 18 #[v] w fun u w' => u = .string ⟨(reB r).toArray⟩ ∧ Upd w w' [] := by
  obtain ⟨vt, vd, rfl, ⟨At', ct, rfl, hmt, hrt⟩, ⟨Ad, cd, rfl, hmd, hrd⟩⟩ := h
  apply flotillaref05_Bytes_sound
  unfold flotillaref05_Bytes_x
  refine st_box (Upd.refl w []) (Owns.nil w) ?_
  intro g w1 hU1 hO1 hg
  let H := [(g, reO r (.slice At' r.ts.length ct) (.slice Ad r.ds.length cd))]
  have hO1 : Owns w1 H := hO1
  have hok' := hok
  obtain ⟨k1, k2, k3, k4, k5, k6, k7, k8, k9, t1, t2, t3, t4⟩ := hok'
  have l1 := headB_len r
  have l2 := chgB_len hok
  have l3 := undoB_len r
  have l4 := tabB_len hok
  unfold numP at k3
  have htx : 0 ≤ r.txn ∧ r.txn ≤ 1073741824 := by unfold txnP at k7; split at k7 <;> omega
  have hS := SU.drew hU1 hO1
  have hne : ∃ w', SU w H w' := ⟨_, hS⟩
  have D : ∀ w', SU w H w' → At w' g r (.slice At' r.ts.length ct) (.slice Ad r.ds.length cd) := fun w' h => At.of (h.2.at_ 0 rfl)
  have c0 : ∀ w', SU w H w' → w'.cell? ⟨g, 0, none⟩ = some (.int .i64 r.kind) := fun w' h => (D w' h).c0
  have c1 : ∀ w', SU w H w' → w'.cell? ⟨g, 1, none⟩ = some (.int .u64 (r.lsn : Nat)) := fun w' h => (D w' h).c1
  have c2 : ∀ w', SU w H w' → w'.cell? ⟨g, 2, none⟩ = some (.int .i64 r.txn) := fun w' h => (D w' h).c2
  have c3 : ∀ w', SU w H w' → w'.cell? ⟨g, 3, none⟩ = some (.int .u64 (r.prev : Nat)) := fun w' h => (D w' h).c3
  have c5 : ∀ w', SU w H w' → w'.cell? ⟨g, 5, none⟩ = some (.int .i64 r.page) := fun w' h => (D w' h).c5
  have c6 : ∀ w', SU w H w' → w'.cell? ⟨g, 6, none⟩ = some (.int .i64 r.ak) := fun w' h => (D w' h).c6
  have c7 : ∀ w', SU w H w' → w'.cell? ⟨g, 7, none⟩ = some (.string ⟨r.key.toArray⟩) := fun w' h => (D w' h).c7
  have c8 : ∀ w', SU w H w' → w'.cell? ⟨g, 8, none⟩ = some (.string ⟨r.old.toArray⟩) := fun w' h => (D w' h).c8
  have c9 : ∀ w', SU w H w' → w'.cell? ⟨g, 9, none⟩ = some (.string ⟨r.new.toArray⟩) := fun w' h => (D w' h).c9
  have c11 : ∀ w', SU w H w' → w'.cell? ⟨g, 11, none⟩ = some (.slice Ad r.ds.length cd) := fun w' h => (D w' h).c11
  refine st_draw (SU w H) hS ?_
  simp (disch := first | assumption | omega) only [SX, SLX, add_mk, Nat.reduceAdd, wr64]
  refine st_call (refNum_spec _ r.kind.toNat 1 (by omega) (by omega)) ?_
  rintro _ w2 ⟨rfl, hU2⟩
  have hS : SU w H w2 := ⟨hS.1.trans hU2, hS.2.ext hU2⟩
  refine st_same hS ?_
  refine st_call (refNum_spec _ r.lsn 8 (by omega) (by omega)) ?_
  rintro _ w3 ⟨rfl, hU3⟩
  have hS : SU w H w3 := ⟨hS.1.trans hU3, hS.2.ext hU3⟩
  refine st_same hS ?_
  rw [sx_cat hne (by simp only [leB_len]; omega)]
  refine st_call (refNum_spec _ r.txn.toNat 4 (by omega) (by omega)) ?_
  rintro _ w4 ⟨rfl, hU4⟩
  have hS : SU w H w4 := ⟨hS.1.trans hU4, hS.2.ext hU4⟩
  refine st_same hS ?_
  rw [sx_cat hne (by simp only [leB_len, List.length_append]; omega)]
  refine st_call (refNum_spec _ r.prev 8 (by omega) (by omega)) ?_
  rintro _ w5 ⟨rfl, hU5⟩
  have hS : SU w H w5 := ⟨hS.1.trans hU5, hS.2.ext hU5⟩
  refine st_same hS ?_
  rw [sx_cat hne (by simp only [leB_len, List.length_append]; omega), show leB r.kind.toNat 1 ++ leB r.lsn 8 ++ leB r.txn.toNat 4 ++ leB r.prev 8 = headB r from rfl]
  let R : List UInt8 → List Value → World → Prop := fun l vs w' => vs.getD 0 undef = .string ⟨l.toArray⟩ ∧ SU w H w'
  refine st_join (R (headB r ++ chgB r)) ?_ ?_
  · intro j hj
    have s0 := c0 _ hS
    simp (disch := first | assumption | omega) only [PX, BX, LX, add_mk, Nat.reduceAdd]
    refine st_call (Changes_spec _ _) ?_
    rintro _ w8 ⟨rfl, rfl⟩
    simp only [BX]
    refine ⟨fun hc => ?_, fun hc => hj _ _ ⟨by unfold chgB; rw [if_neg hc, List.append_nil]; rfl, hS⟩⟩
    rw [if_pos hc] at k6
    obtain ⟨⟨p1, p2⟩, q1, q2, q3, q4, q5⟩ := k6
    have hak : 0 ≤ r.ak ∧ r.ak < 256 := by rcases q5 with h | h | h <;> omega
    have hS := SU.drew hS.1 hS.2
    refine st_draw (SU w H) hS ?_
    simp (disch := first | assumption | omega) only [SX, SLX, add_mk, Nat.reduceAdd, wr64]
    refine st_call (refNum_spec _ r.page.toNat 2 (by omega) (by omega)) ?_
    rintro _ w2 ⟨rfl, hU2⟩
    have hS : SU w H w2 := ⟨hS.1.trans hU2, hS.2.ext hU2⟩
    refine st_same hS ?_
    rw [sx_cat hne (by simp only [leB_len]; omega)]
    refine st_call (refNum_spec _ r.ak.toNat 1 (by omega) (by omega)) ?_
    rintro _ w3 ⟨rfl, hU3⟩
    have hS : SU w H w3 := ⟨hS.1.trans hU3, hS.2.ext hU3⟩
    refine st_same hS ?_
    rw [sx_cat hne (by simp only [leB_len, List.length_append]; omega)]
    have hS := SU.drew hS.1 hS.2
    refine st_draw (SU w H) hS ?_
    simp (disch := first | assumption | omega) only [SX, SLX, add_mk, Nat.reduceAdd, wr64]
    refine st_call (refText_spec _ r.key) ?_
    rintro _ w4 ⟨rfl, hU4⟩
    have hS : SU w H w4 := ⟨hS.1.trans hU4, hS.2.ext hU4⟩
    refine st_same hS ?_
    rw [sx_cat hne (by simp only [leB_len, List.length_append, textB_len]; omega)]
    refine st_call (refText_spec _ r.old) ?_
    rintro _ w5 ⟨rfl, hU5⟩
    have hS : SU w H w5 := ⟨hS.1.trans hU5, hS.2.ext hU5⟩
    refine st_same hS ?_
    rw [sx_cat hne (by simp only [leB_len, List.length_append, textB_len]; omega)]
    refine st_call (refText_spec _ r.new) ?_
    rintro _ w6 ⟨rfl, hU6⟩
    have hS : SU w H w6 := ⟨hS.1.trans hU6, hS.2.ext hU6⟩
    refine st_same hS ?_
    rw [sx_cat hne (by simp only [leB_len, List.length_append, textB_len]; omega)]
    refine hj _ _ ⟨?_, hS⟩
    unfold chgB
    rw [if_pos hc]
    simp only [List.append_assoc, List.getD_cons_zero]
  clear hS
  rintro dv vs w6 ⟨e0, hS⟩
  unfold flotillaref05_Bytes_j4
  refine st_join (R (headB r ++ chgB r ++ undoB r)) ?_ ?_
  · intro j hj
    have s0 := c0 _ hS
    have s4 := (D _ hS).c4
    simp (disch := first | assumption | omega) only [PX, BX, LX, add_mk, Nat.reduceAdd, e0]
    refine ⟨fun hc => ?_, fun hc => hj _ _ ⟨by unfold undoB; rw [if_neg hc, List.append_nil]; rfl, hS⟩⟩
    refine st_call (refNum_spec _ r.undo 8 (by omega) (by omega)) ?_
    rintro _ w2 ⟨rfl, hU2⟩
    have hS : SU w H w2 := ⟨hS.1.trans hU2, hS.2.ext hU2⟩
    rw [px_cat (by simp only [leB_len, List.length_append]; omega)]
    refine hj _ _ ⟨?_, hS⟩
    unfold undoB
    rw [if_pos hc]
    rfl
  clear hS e0 dv vs
  rintro dv vs w6 ⟨e0, hS⟩
  unfold flotillaref05_Bytes_j3
  refine st_join (R (reB r)) ?_ ?_
  · intro j hj
    have s0 := c0 _ hS
    have s10 := (D _ hS).c10
    simp (disch := first | assumption | omega) only [PX, BX, LX, add_mk, Nat.reduceAdd, e0]
    refine ⟨fun hc => ?_, fun hc => hj _ _ ⟨by unfold reB tabB; rw [if_neg hc, List.append_nil]; rfl, hS⟩⟩
    simp only [wrapU64]
    rw [Nat.mod_eq_of_lt (show r.ts.length < 18446744073709551616 by omega)]
    refine st_call (refNum_spec _ r.ts.length 1 (by omega) (by omega)) ?_
    rintro _ w2 ⟨rfl, hU2⟩
    have hS : SU w H w2 := ⟨hS.1.trans hU2, hS.2.ext hU2⟩
    rw [px_cat (by simp only [leB_len, List.length_append]; omega)]
    have b1 : (headB r ++ chgB r ++ undoB r).length ≤ 118 := by simp only [List.length_append]; omega
    generalize hpre : headB r ++ chgB r ++ undoB r = pre at b1
    clear s0 s10 e0
    refine st_loop (fun vs w' => ∃ i : Nat, i ≤ r.ts.length ∧ vs.getD 0 undef = .string ⟨(pre ++ leB r.ts.length 1 ++ (r.ts.take i).flatMap txB).toArray⟩ ∧ vs.getD 1 undef = .int .i64 i ∧ SU w H w') (fun vs _ => r.ts.length - (intOf (vs.getD 1 undef)).toNat) ⟨0, by omega, by simp, rfl, hS⟩ ?_
    clear hS dv vs
    rintro dv vs w11 - ⟨i, hi, e0, e1, hS⟩
    have s10 := (D _ hS).c10
    simp (disch := first | assumption | omega) only [e0, e1, PX, BX, LX, add_mk, Nat.reduceAdd]
    refine ⟨fun hlt => ?_, fun hge => ?_⟩
    · have hi' : i < r.ts.length := by omega
      obtain ⟨a, rfl, hc'⟩ := row_at (f := txV) (k := 3) (fun _ => rfl) (by omega) hrt hi'
      simp (disch := omega) only [PX]
      rw [step_run (run_tx (hc' w11 hS.1))]
      refine st_alloc ze51 hS.1 hS.2 ?_
      intro g3 w12 hU12 hO12 hg3
      refine st_tx hU12 hO12 0 rfl hg3 ?_
      intro w13 hU13 hO13
      let H2 := (g3, txO r.ts[i]) :: H
      have hO13 : Owns w13 H2 := hO13
      have bl : ((r.ts.take i).flatMap txB).length ≤ 64 * 13 := by rw [flat_le txB 13 txB_len, List.length_take]; omega
      obtain ⟨⟨⟨x1, x2⟩, x3, x4, x5, x6⟩, -⟩ := t3 i (by omega) _ (List.getElem?_eq_getElem hi')
      have hS := SU.drew hU13 hO13
      have hne : ∃ w', SU w H2 w' := ⟨_, hS⟩
      have d0 : ∀ w', SU w H2 w' → w'.cell? ⟨g3, 0, none⟩ = some (.int .i64 r.ts[i].id) := fun w' h => cell_at (h.2.at_ 0 rfl)
      have d1 : ∀ w', SU w H2 w' → w'.cell? ⟨g3, 1, none⟩ = some (.int .i64 r.ts[i].st) := fun w' h => cell_at (h.2.at_ 0 rfl)
      have d2 : ∀ w', SU w H2 w' → w'.cell? ⟨g3, 2, none⟩ = some (.int .u64 (r.ts[i].last : Nat)) := fun w' h => cell_at (h.2.at_ 0 rfl)
      refine st_draw (SU w H2) hS ?_
      simp (disch := first | assumption | omega) only [SX, SLX, add_mk, Nat.reduceAdd, wr64]
      refine st_call (refNum_spec _ r.ts[i].id.toNat 4 (by omega) (by omega)) ?_
      rintro _ w2 ⟨rfl, hU2⟩
      have hS : SU w H2 w2 := ⟨hS.1.trans hU2, hS.2.ext hU2⟩
      refine st_same hS ?_
      rw [sx_cat hne (by simp only [leB_len, List.length_append]; omega)]
      refine st_call (refNum_spec _ r.ts[i].st.toNat 1 (by omega) (by omega)) ?_
      rintro _ w3 ⟨rfl, hU3⟩
      have hS : SU w H2 w3 := ⟨hS.1.trans hU3, hS.2.ext hU3⟩
      refine st_same hS ?_
      rw [sx_cat hne (by simp only [leB_len, List.length_append]; omega)]
      refine st_call (refNum_spec _ r.ts[i].last 8 (by omega) (by omega)) ?_
      rintro _ w4 ⟨rfl, hU4⟩
      have hS : SU w H2 w4 := ⟨hS.1.trans hU4, hS.2.ext hU4⟩
      refine st_same hS ?_
      rw [sx_cat hne (by simp only [leB_len, List.length_append]; omega)]
      simp (disch := omega) only [PX, w64]
      refine ⟨⟨i + 1, by omega, ?_, rfl, hS.1, hS.2.sub (.cons _ (List.Sublist.refl _))⟩, ?_⟩
      · rw [flat_take txB hi']
        unfold txB
        simp only [List.append_assoc, List.getD_cons_zero]
      · simp only [List.getD_cons_zero, List.getD_cons_succ, intOf]; omega
    · obtain rfl : i = r.ts.length := by omega
      rw [List.take_length] at e0 ⊢
      unfold flotillaref05_Bytes_k2
      have bl : (r.ts.flatMap txB).length ≤ 64 * 13 := by rw [flat_le txB 13 txB_len]; omega
      have s11 := c11 _ hS
      simp (disch := first | assumption | omega) only [PX, BX, LX, add_mk, Nat.reduceAdd, wrapU64]
      rw [Nat.mod_eq_of_lt (show r.ds.length < 18446744073709551616 by omega)]
      refine st_call (refNum_spec _ r.ds.length 1 (by omega) (by omega)) ?_
      rintro _ w2 ⟨rfl, hU2⟩
      have hS : SU w H w2 := ⟨hS.1.trans hU2, hS.2.ext hU2⟩
      rw [px_cat (by simp only [leB_len, List.length_append]; omega)]
      clear s10 s11 e0 e1
      refine st_loop (fun vs w' => ∃ i : Nat, i ≤ r.ds.length ∧ vs.getD 0 undef = .string ⟨(pre ++ leB r.ts.length 1 ++ r.ts.flatMap txB ++ leB r.ds.length 1 ++ (r.ds.take i).flatMap diB).toArray⟩ ∧ vs.getD 1 undef = .int .i64 i ∧ SU w H w') (fun vs _ => r.ds.length - (intOf (vs.getD 1 undef)).toNat) ⟨0, by omega, by simp, rfl, hS⟩ ?_
      clear hS dv vs
      rintro dv vs w11 - ⟨i, hi, e0, e1, hS⟩
      have s11 := c11 _ hS
      simp (disch := first | assumption | omega) only [e0, e1, PX, BX, LX, add_mk, Nat.reduceAdd]
      refine ⟨fun hlt => ?_, fun hge => ?_⟩
      · have hi' : i < r.ds.length := by omega
        obtain ⟨a, rfl, hc'⟩ := row_at (f := diV) (k := 2) (fun _ => rfl) (by omega) hrd hi'
        have bl2 : ((r.ds.take i).flatMap diB).length ≤ 16 * 10 := by rw [flat_le diB 10 diB_len, List.length_take]; omega
        obtain ⟨⟨⟨x1, x2⟩, x5, x6⟩, -⟩ := t4 i (by omega) _ (List.getElem?_eq_getElem hi')
        have hS := SU.drew hS.1 hS.2
        have d0 : ∀ w', SU w H w' → w'.cell? (a.add (i * 2)) = some (.int .i64 r.ds[i].page) := fun w' h => hc' w' h.1 0 _ rfl
        have d1 : ∀ w', SU w H w' → w'.cell? ((a.add (i * 2)).add 1) = some (.int .u64 (r.ds[i].rc : Nat)) := fun w' h => hc' w' h.1 1 _ rfl
        refine st_draw (SU w H) hS ?_
        simp (disch := first | assumption | omega) only [SX, SLX, add_mk, Nat.reduceAdd, wr64]
        refine st_call (refNum_spec _ r.ds[i].page.toNat 2 (by omega) (by omega)) ?_
        rintro _ w2 ⟨rfl, hU2⟩
        have hS : SU w H w2 := ⟨hS.1.trans hU2, hS.2.ext hU2⟩
        refine st_same hS ?_
        rw [sx_cat hne (by simp only [leB_len, List.length_append]; omega)]
        refine st_call (refNum_spec _ r.ds[i].rc 8 (by omega) (by omega)) ?_
        rintro _ w4 ⟨rfl, hU4⟩
        have hS : SU w H w4 := ⟨hS.1.trans hU4, hS.2.ext hU4⟩
        refine st_same hS ?_
        rw [sx_cat hne (by simp only [leB_len, List.length_append]; omega)]
        simp (disch := omega) only [PX, w64]
        refine ⟨⟨i + 1, by omega, ?_, rfl, hS⟩, ?_⟩
        · rw [flat_take diB hi']
          unfold diB
          simp only [List.append_assoc, List.getD_cons_zero]
        · simp only [List.getD_cons_zero, List.getD_cons_succ, intOf]; omega
      · obtain rfl : i = r.ds.length := by omega
        rw [List.take_length] at e0 ⊢
        refine hj _ _ ⟨?_, hS⟩
        unfold reB tabB
        rw [if_pos hc, hpre]
        simp only [List.append_assoc, List.getD_cons_zero]
  rintro dv vs w7 ⟨e0, hS⟩
  unfold flotillaref05_Bytes_j1
  exact ⟨e0, hS.1⟩
end Go.Proofs.Ytconmaojfkmlnaa.Rec
