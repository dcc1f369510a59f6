/- A record's bytes. -/
import Derived.Test.YtconmaojfkmlnaaRecE
namespace Go.Proofs.Ytconmaojfkmlnaa.Rec
open Go Go.Proofs.Ytconmaojfkmlnaa Go.Proofs.Ytconmaojfkmlnaa.Enc Xf Go.RowKit
set_option linter.unusedVariables false
set_option linter.unusedSimpArgs false
set_option maxRecDepth 100000

theorem wr8 {a : Int} (h0 : 0 ≤ a) (h1 : a < 256) : IntKind.wrap .u8 a = ((a.toNat : Nat) : Int) := by rw [IntKind.wrap_u8]; omega
theorem wr16 {a : Int} (h0 : 0 ≤ a) (h1 : a < 65536) : IntKind.wrap .u16 a = ((a.toNat : Nat) : Int) := by
  simp [IntKind.wrap, IntKind.bits, IntKind.signed]; omega
theorem wr32 {a : Int} (h0 : 0 ≤ a) (h1 : a < 4294967296) : IntKind.wrap .u32 a = ((a.toNat : Nat) : Int) := by rw [IntKind.wrap_u32]; omega
theorem wr64 {a : Int} (h0 : 0 ≤ a) (h1 : a < 18446744073709551616) : IntKind.wrap .u64 a = ((a.toNat : Nat) : Int) := by
  simp [IntKind.wrap, IntKind.bits, IntKind.signed]; omega
theorem At.mono {w w' : World} {g : Nat} {r : Re} {vt vd : Value} (h : At w g r vt vd) (hU : Upd w w' []) : At w' g r vt vd := by
  have hg := World.block_lt_of_cell? w _ h.c0
  have hc : ∀ i, w'.cell? ⟨g, i, none⟩ = w.cell? ⟨g, i, none⟩ := fun i => hU.cell hg (by simp)
  obtain ⟨c0, c1, c2, c3, c4, c5, c6, c7, c8, c9, c10, c11⟩ := h
  refine ⟨?_, ?_, ?_, ?_, ?_, ?_, ?_, ?_, ?_, ?_, ?_, ?_⟩ <;> (rw [hc]; assumption)
theorem WI.front {W w : World} {F : List (Nat × Obj)} {g : Nat} {l : List UInt8} (h : WI W F g l w) {p : Nat × Obj} (hp : p ∈ F) : w.heap[p.1]? = some p.2 := by
  obtain ⟨v, hh, h1, h2, h3, h4, h5⟩ := h
  exact h2.2 p (List.mem_append_right _ (List.mem_cons_of_mem _ hp))
theorem flat_take {α : Type} (f : α → List UInt8) {l : List α} {i : Nat} (h : i < l.length) : (l.take (i + 1)).flatMap f = (l.take i).flatMap f ++ f l[i] := by
  rw [List.take_succ_eq_append_getElem h, List.flatMap_append]; simp

def headB (r : Re) : List UInt8 := leB r.kind.toNat 1 ++ leB r.lsn 8 ++ leB r.txn.toNat 4 ++ leB r.prev 8
def chgB (r : Re) : List UInt8 := if chgP r.kind then leB r.page.toNat 2 ++ leB r.ak.toNat 1 ++ textB r.key ++ textB r.old ++ textB r.new else []
def undoB (r : Re) : List UInt8 := if r.kind = 2 then leB r.undo 8 else []
def txB (t : Tx) : List UInt8 := leB t.id.toNat 4 ++ leB t.st.toNat 1 ++ leB t.last 8
def diB (d : Di) : List UInt8 := leB d.page.toNat 2 ++ leB d.rc 8
def tabB (r : Re) : List UInt8 := if r.kind = 8 then leB r.ts.length 1 ++ r.ts.flatMap txB ++ leB r.ds.length 1 ++ r.ds.flatMap diB else []
def reB (r : Re) : List UInt8 := headB r ++ chgB r ++ undoB r ++ tabB r
theorem headB_len (r : Re) : (headB r).length = 21 := by simp [headB, leB_len]
theorem flat_le {α : Type} (f : α → List UInt8) (k : Nat) (hf : ∀ x, (f x).length = k) : ∀ l : List α, (l.flatMap f).length = l.length * k
  | [] => by simp
  | x :: l => by rw [List.flatMap_cons, List.length_append, hf, flat_le f k hf l, List.length_cons, Nat.succ_mul]; omega
theorem txB_len (t : Tx) : (txB t).length = 13 := by simp [txB, leB_len]
theorem diB_len (t : Di) : (diB t).length = 10 := by simp [diB, leB_len]
theorem chgB_len {r : Re} (h : okP r) : (chgB r).length ≤ 89 := by
  unfold chgB
  by_cases hc : chgP r.kind
  · have := h.2.2.2.2.2.1
    rw [if_pos hc] at this ⊢
    obtain ⟨_, _, h1, h2, h3, _⟩ := this
    simp only [List.length_append, leB_len, textB_len]
    omega
  · rw [if_neg hc]; simp
theorem undoB_len (r : Re) : (undoB r).length ≤ 8 := by
  unfold undoB; split <;> simp [leB_len]
theorem tabB_len {r : Re} (h : okP r) : (tabB r).length ≤ 994 := by
  unfold tabB
  have h1 := h.2.2.2.2.2.2.2.2.2.1
  have h2 := h.2.2.2.2.2.2.2.2.2.2.1
  split
  · simp only [List.length_append, leB_len, flat_le txB 13 txB_len, flat_le diB 10 diB_len]; omega
  · simp
theorem reB_len {r : Re} (h : okP r) : (reB r).length ≤ 1112 := by
  have h1 := headB_len r; have h2 := chgB_len h; have h3 := undoB_len r; have h4 := tabB_len h
  unfold reB; simp only [List.length_append]; omega

/-- a row of bytes of one's own, or nothing -/
theorem NewB.nil {w w' : World} (hU : Upd w w' []) : NewB w w' (.slice none 0 0) [] := ⟨[], RowH.nil_ 5 1, Owns.nil _, hU, fun p hp => by cases hp⟩
theorem NewB.base {w w1 w' : World} {v : Value} {l : List UInt8} (h : NewB w1 w' v l) (hU : Upd w w1 []) : NewB w w' v l := by
  obtain ⟨hh, h1, h2, h3, h4⟩ := h
  exact ⟨hh, h1, h2, hU.trans h3, fun p hp => Nat.le_trans hU.size (h4 p hp)⟩

theorem Encode_spec (w : World) (v : Value) (r : Re) (h : RdRe w v r) : CallsR Try.prog 19 #[v] w fun u w' => ∃ x, u = .tuple #[x, .int .i64 (okN (okP r) : Nat)] ∧ NewB w w' x (if okP r then reB r else []) := by
  obtain ⟨vt, vd, rfl, hT, hD⟩ := h
  obtain ⟨At', ct, rfl, hmt⟩ := RdS.len hT
  obtain ⟨Ad, cd, rfl, hmd⟩ := RdS.len hD
  apply rec_Encode_sound
  unfold rec_Encode_x
  refine st_box (Upd.refl w []) (Owns.nil w) ?_
  intro g w1 hU1 hO1 hg
  have hO1 : Owns w1 [(g, reO r (.slice At' r.ts.length ct) (.slice Ad r.ds.length cd))] := hO1
  rw [step_run (run_re (hO1.at_ 0 rfl))]
  refine st_call (Check_spec _ _ r (RdRe.blk hO1 hU1 hT hD)) ?_
  rintro _ w2 ⟨rfl, hU2⟩
  have hO2 := hO1.ext hU2
  have hU2 := hU1.trans hU2
  clear hU1 hO1
  by_cases hok : okP r
  · have e0 : okN (okP r) = 0 := by unfold okN; rw [if_pos hok]
    rw [e0, if_pos hok]
    simp only [PX, BX]
    refine ⟨fun h => absurd rfl h, fun _ => ?_⟩
    refine st_call (New_spec w2) ?_
    rintro _ w3 ⟨gw, rfl, hW⟩
    have hA := At.of (hO2.at_ 0 rfl)
    have hT := hT.mono hU2
    have hD := hD.mono hU2
    obtain ⟨k1, k2, k3, k4, k5, k6, k7, k8, k9, k10⟩ := hok
    have hok : okP r := ⟨k1, k2, k3, k4, k5, k6, k7, k8, k9, k10⟩
    have l1 := headB_len r
    have l2 := chgB_len hok
    have l3 := undoB_len r
    have l4 := tabB_len hok
    unfold numP at k3
    have htx : 0 ≤ r.txn ∧ r.txn ≤ 1073741824 := by unfold txnP at k7; split at k7 <;> omega
    obtain ⟨c0, -⟩ := hA.mono hW.mid
    simp (disch := first | assumption | omega) only [PX, BX, LX, add_mk, Nat.reduceAdd, wr8]
    refine st_call (Byte_spec r.kind.toNat (by simp) (by omega) hW) ?_
    intro _ w4 hW
    obtain ⟨-, c1, -⟩ := hA.mono hW.mid
    simp (disch := first | assumption | omega) only [PX, BX, LX, add_mk, Nat.reduceAdd]
    refine st_call (Eight_spec r.lsn (by simp only [List.length_append, leB_len, List.length_nil]; omega) hW) ?_
    intro _ w5 hW
    obtain ⟨-, -, c2, -⟩ := hA.mono hW.mid
    simp (disch := first | assumption | omega) only [PX, BX, LX, add_mk, Nat.reduceAdd, wr32]
    refine st_call (Four_spec r.txn.toNat (by simp only [List.length_append, leB_len, List.length_nil]; omega) (by omega) hW) ?_
    intro _ w6 hW
    obtain ⟨-, -, -, c3, -⟩ := hA.mono hW.mid
    simp (disch := first | assumption | omega) only [PX, BX, LX, add_mk, Nat.reduceAdd]
    refine st_call (Eight_spec r.prev (by simp only [List.length_append, leB_len, List.length_nil]; omega) hW) ?_
    intro _ w7 hW
    have hW : WI w2 [] gw (headB r) w7 := hW
    -- a change
    refine st_join (fun _ w' => WI w2 [] gw (headB r ++ chgB r) w') ?_ ?_
    · intro j hj
      obtain ⟨c0, c1, c2, c3, c4, c5, c6, c7, c8, c9, c10, c11⟩ := hA.mono hW.mid
      simp (disch := first | assumption | omega) only [PX, BX, LX, add_mk, Nat.reduceAdd]
      refine st_call (changes_spec _ _) ?_
      rintro _ w8 ⟨rfl, rfl⟩
      simp only [BX]
      refine ⟨fun hc => ?_, fun hc => hj _ _ (by unfold chgB; rw [if_neg hc]; simpa using hW)⟩
      rw [if_pos hc] at k6
      obtain ⟨⟨p1, p2⟩, q1, q2, q3, q4, q5⟩ := k6
      have hak : 0 ≤ r.ak ∧ r.ak < 256 := by rcases q5 with h | h | h <;> omega
      simp (disch := first | assumption | omega) only [PX, BX, LX, add_mk, Nat.reduceAdd, wr16]
      refine st_call (Two_spec r.page.toNat (by omega) (by omega) hW) ?_
      intro _ w9 hW
      obtain ⟨c0, c1, c2, c3, c4, c5, c6, c7, c8, c9, c10, c11⟩ := hA.mono hW.mid
      simp (disch := first | assumption | omega) only [PX, BX, LX, add_mk, Nat.reduceAdd, wr8]
      refine st_call (Byte_spec r.ak.toNat (by simp only [List.length_append, leB_len]; omega) (by omega) hW) ?_
      intro _ w10 hW
      obtain ⟨c0, c1, c2, c3, c4, c5, c6, c7, c8, c9, c10, c11⟩ := hA.mono hW.mid
      simp (disch := first | assumption | omega) only [PX, BX, LX, add_mk, Nat.reduceAdd]
      refine st_call (Text_spec r.key (by simp only [List.length_append, leB_len]; omega) hW) ?_
      intro _ w11 hW
      obtain ⟨c0, c1, c2, c3, c4, c5, c6, c7, c8, c9, c10, c11⟩ := hA.mono hW.mid
      simp (disch := first | assumption | omega) only [PX, BX, LX, add_mk, Nat.reduceAdd]
      refine st_call (Text_spec r.old (by simp only [List.length_append, leB_len, textB_len]; omega) hW) ?_
      intro _ w12 hW
      obtain ⟨c0, c1, c2, c3, c4, c5, c6, c7, c8, c9, c10, c11⟩ := hA.mono hW.mid
      simp (disch := first | assumption | omega) only [PX, BX, LX, add_mk, Nat.reduceAdd]
      refine st_call (Text_spec r.new (by simp only [List.length_append, leB_len, textB_len]; omega) hW) ?_
      intro _ w13 hW
      refine hj _ _ ?_
      unfold chgB
      rw [if_pos hc]
      simpa only [List.append_assoc] using hW
    clear hW
    intro dv vs w8 hW
    unfold rec_Encode_j4
    refine st_join (fun _ w' => WI w2 [] gw (headB r ++ chgB r ++ undoB r) w') ?_ ?_
    · intro j hj
      obtain ⟨c0, c1, c2, c3, c4, c5, c6, c7, c8, c9, c10, c11⟩ := hA.mono hW.mid
      simp (disch := first | assumption | omega) only [PX, BX, LX, add_mk, Nat.reduceAdd]
      refine ⟨fun hc => ?_, fun hc => hj _ _ (by unfold undoB; rw [if_neg hc]; simpa using hW)⟩
      refine st_call (Eight_spec r.undo (by simp; omega) hW) ?_
      intro _ w9 hW
      refine hj _ _ ?_
      unfold undoB
      rw [if_pos hc]
      exact hW
    clear hW
    intro dv vs w9 hW
    unfold rec_Encode_j3
    refine st_join (fun _ w' => WI w2 [] gw (reB r) w') ?_ ?_
    · intro j hj
      obtain ⟨c0, c1, c2, c3, c4, c5, c6, c7, c8, c9, c10, c11⟩ := hA.mono hW.mid
      simp (disch := first | assumption | omega) only [PX, BX, LX, add_mk, Nat.reduceAdd]
      refine ⟨fun hc => ?_, fun hc => hj _ _ (by unfold reB tabB; rw [if_neg hc]; simpa using hW)⟩
      obtain ⟨t1, t2, t3, t4⟩ := k10
      simp only [wrapU8]
      rw [Nat.mod_eq_of_lt (show r.ts.length < 256 by omega)]
      refine st_call (Byte_spec r.ts.length (by simp; omega) (by omega) hW) ?_
      intro _ w10 hW
      obtain ⟨c0, c1, c2, c3, c4, c5, c6, c7, c8, c9, c10, c11⟩ := hA.mono hW.mid
      simp (disch := first | assumption | omega) only [PX, BX, LX, add_mk, Nat.reduceAdd]
      clear c0 c1 c2 c3 c4 c5 c6 c7 c8 c9 c10 c11
      obtain ⟨_, _, he, -, hrt⟩ := hT
      injection he with he1 _ he2
      subst he1 he2
      obtain ⟨_, _, he, -, hrd⟩ := hD
      injection he with he1 _ he2
      subst he1 he2
      have b1 : (headB r ++ chgB r ++ undoB r).length ≤ 118 := by simp only [List.length_append]; omega
      generalize hpre : headB r ++ chgB r ++ undoB r = pre at hW b1
      refine st_loop (fun vs w' => ∃ i : Nat, i ≤ r.ts.length ∧ vs.getD 0 undef = .int .i64 i ∧ WI w2 [] gw (pre ++ leB r.ts.length 1 ++ (r.ts.take i).flatMap txB) w') (fun vs _ => r.ts.length - (intOf (vs.getD 0 undef)).toNat) ⟨0, by omega, rfl, by simpa using hW⟩ ?_
      clear hW
      rintro dv vs w11 - ⟨i, hi, e0, hW⟩
      simp (disch := omega) only [e0, PX, BX]
      refine ⟨fun hlt => ?_, fun hge => ?_⟩
      · have hi' : i < r.ts.length := by omega
        obtain ⟨a, rfl, hc⟩ := row_at (f := txV) (k := 3) (fun _ => rfl) (by omega) hrt hi'
        simp (disch := omega) only [PX]
        rw [step_run (run_tx (hc w11 hW.mid))]
        refine st_alloc ze51 (Upd.refl w11 []) (Owns.nil w11) ?_
        intro g3 w12 hU12 hO12 hg3
        refine st_tx hU12 hO12 0 rfl hg3 ?_
        intro w13 hU13 hO13
        have hW : WI w2 [(g3, txO r.ts[i])] gw _ w13 := hW.push (p := (g3, txO r.ts[i])) hU13 (hO13.at_ 0 rfl) hg3
        have bl : ((r.ts.take i).flatMap txB).length ≤ 64 * 13 := by rw [flat_le txB 13 txB_len, List.length_take]; omega
        obtain ⟨⟨⟨x1, x2⟩, x3, x4, x5, x6⟩, -⟩ := t3 i (by omega) _ (List.getElem?_eq_getElem hi')
        have d0 : w13.cell? ⟨g3, 0, none⟩ = some (.int .i64 r.ts[i].id) := cell_at (WI.front hW (List.mem_singleton.2 rfl))
        simp (disch := first | assumption | omega) only [PX, BX, LX, add_mk, Nat.reduceAdd, wr32]
        refine st_call (Four_spec r.ts[i].id.toNat (by simp only [List.length_append, leB_len]; omega) (by omega) hW) ?_
        intro _ w14 hW
        have d1 : w14.cell? ⟨g3, 1, none⟩ = some (.int .i64 r.ts[i].st) := cell_at (WI.front hW (List.mem_singleton.2 rfl))
        simp (disch := first | assumption | omega) only [PX, BX, LX, add_mk, Nat.reduceAdd, wr8]
        refine st_call (Byte_spec r.ts[i].st.toNat (by simp only [List.length_append, leB_len]; omega) (by omega) hW) ?_
        intro _ w15 hW
        have d2 : w15.cell? ⟨g3, 2, none⟩ = some (.int .u64 (r.ts[i].last : Nat)) := cell_at (WI.front hW (List.mem_singleton.2 rfl))
        simp (disch := first | assumption | omega) only [PX, BX, LX, add_mk, Nat.reduceAdd, w64]
        refine st_call (Eight_spec r.ts[i].last (by simp only [List.length_append, leB_len]; omega) hW) ?_
        intro _ w16 hW
        refine ⟨⟨i + 1, by omega, rfl, ?_⟩, ?_⟩
        · have := hW.pop
          rw [flat_take txB hi']
          unfold txB at this ⊢
          simpa only [List.append_assoc] using this
        · simp only [List.getD_cons_zero, intOf]; omega
      · obtain rfl : i = r.ts.length := by omega
        rw [List.take_length] at hW
        unfold rec_Encode_k2
        clear e0
        have bl : (r.ts.flatMap txB).length ≤ 64 * 13 := by rw [flat_le txB 13 txB_len]; omega
        obtain ⟨c0, c1, c2, c3, c4, c5, c6, c7, c8, c9, c10, c11⟩ := hA.mono hW.mid
        simp (disch := first | assumption | omega) only [PX, BX, LX, add_mk, Nat.reduceAdd, wrapU8]
        rw [Nat.mod_eq_of_lt (show r.ds.length < 256 by omega)]
        refine st_call (Byte_spec r.ds.length (by simp only [List.length_append, leB_len]; omega) (by omega) hW) ?_
        intro _ w10 hW
        obtain ⟨c0, c1, c2, c3, c4, c5, c6, c7, c8, c9, c10, c11⟩ := hA.mono hW.mid
        simp (disch := first | assumption | omega) only [PX, BX, LX, add_mk, Nat.reduceAdd]
        clear c0 c1 c2 c3 c4 c5 c6 c7 c8 c9 c10 c11
        refine st_loop (fun vs w' => ∃ i : Nat, i ≤ r.ds.length ∧ vs.getD 0 undef = .int .i64 i ∧ WI w2 [] gw (pre ++ leB r.ts.length 1 ++ r.ts.flatMap txB ++ leB r.ds.length 1 ++ (r.ds.take i).flatMap diB) w') (fun vs _ => r.ds.length - (intOf (vs.getD 0 undef)).toNat) ⟨0, by omega, rfl, by simpa using hW⟩ ?_
        clear hW dv vs
        rintro dv vs w11 - ⟨i, hi, e0, hW⟩
        simp (disch := omega) only [e0, PX, BX]
        refine ⟨fun hlt => ?_, fun hge => ?_⟩
        · have hi' : i < r.ds.length := by omega
          obtain ⟨a, rfl, hc⟩ := row_at (f := diV) (k := 2) (fun _ => rfl) (by omega) hrd hi'
          simp (disch := omega) only [PX]
          rw [step_run (run_di (hc w11 hW.mid))]
          refine st_alloc ze53 (Upd.refl w11 []) (Owns.nil w11) ?_
          intro g3 w12 hU12 hO12 hg3
          refine st_di hU12 hO12 0 rfl hg3 ?_
          intro w13 hU13 hO13
          have hW : WI w2 [(g3, diO r.ds[i])] gw _ w13 := hW.push (p := (g3, diO r.ds[i])) hU13 (hO13.at_ 0 rfl) hg3
          have bl2 : ((r.ds.take i).flatMap diB).length ≤ 16 * 10 := by rw [flat_le diB 10 diB_len, List.length_take]; omega
          obtain ⟨⟨⟨x1, x2⟩, x5, x6⟩, -⟩ := t4 i (by omega) _ (List.getElem?_eq_getElem hi')
          have d0 : w13.cell? ⟨g3, 0, none⟩ = some (.int .i64 r.ds[i].page) := cell_at (WI.front hW (List.mem_singleton.2 rfl))
          simp (disch := first | assumption | omega) only [PX, BX, LX, add_mk, Nat.reduceAdd, wr16]
          refine st_call (Two_spec r.ds[i].page.toNat (by simp only [List.length_append, leB_len]; omega) (by omega) hW) ?_
          intro _ w14 hW
          have d1 : w14.cell? ⟨g3, 1, none⟩ = some (.int .u64 (r.ds[i].rc : Nat)) := cell_at (WI.front hW (List.mem_singleton.2 rfl))
          simp (disch := first | assumption | omega) only [PX, BX, LX, add_mk, Nat.reduceAdd, w64]
          refine st_call (Eight_spec r.ds[i].rc (by simp only [List.length_append, leB_len]; omega) hW) ?_
          intro _ w16 hW
          refine ⟨⟨i + 1, by omega, rfl, ?_⟩, ?_⟩
          · have := hW.pop
            rw [flat_take diB hi']
            unfold diB at this ⊢
            simpa only [List.append_assoc] using this
          · simp only [List.getD_cons_zero, intOf]; omega
        · obtain rfl : i = r.ds.length := by omega
          rw [List.take_length] at hW
          refine hj _ _ ?_
          unfold reB tabB
          rw [if_pos hc, hpre]
          simpa only [List.append_assoc] using hW
    clear hW
    intro dv vs w10 hW
    unfold rec_Encode_j1
    refine st_call (Done_spec (by have := reB_len hok; omega) hW) ?_
    intro x w11 hN
    exact ⟨x, rfl, NewB.base hN (hU2.trans hW.mid)⟩
  · have e0 : okN (okP r) = 1 := by unfold okN; rw [if_neg hok]
    rw [e0, if_neg hok]
    simp only [PX, BX]
    exact ⟨fun _ => ⟨_, rfl, NewB.nil hU2⟩, fun h => absurd (by decide) h⟩
end Go.Proofs.Ytconmaojfkmlnaa.Rec
