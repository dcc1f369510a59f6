/- The document's reading of a record: the rows, the whole. -/
import Derived.Test.YtconmaojfkmlnaaRecX
namespace Go.Proofs.Ytconmaojfkmlnaa.Rec
open Go Go.Proofs.Ytconmaojfkmlnaa Go.Proofs.Ytconmaojfkmlnaa.Enc Xf Go.RowKit
set_option linter.unusedVariables false
set_option linter.unusedSimpArgs false
set_option maxRecDepth 100000

theorem perm_t {α : Type} (p q r s x : α) (A B : List α) : List.Perm (x :: p :: q :: r :: s :: (A ++ B)) (A ++ (p :: q :: r :: s :: x :: B)) := by
  classical
  refine List.perm_iff_count.2 fun y => ?_
  simp only [List.count_cons, List.count_append, List.count_nil]
  omega
theorem perm_d {α : Type} (p q r s x : α) (A B : List α) : List.Perm (x :: p :: q :: r :: s :: (A ++ B)) (B ++ (p :: q :: r :: s :: x :: A)) := by
  classical
  refine List.perm_iff_count.2 fun y => ?_
  simp only [List.count_cons, List.count_append, List.count_nil]
  omega
theorem perm_t' {α : Type} (p q r s x : α) (A B : List α) : List.Perm (A ++ (p :: q :: r :: s :: x :: B)) (p :: q :: r :: s :: x :: (A ++ B)) := by
  classical
  refine List.perm_iff_count.2 fun y => ?_
  simp only [List.count_cons, List.count_append, List.count_nil]
  omega
theorem perm_d' {α : Type} (p q r s x : α) (A B : List α) : List.Perm (B ++ (p :: q :: r :: s :: x :: A)) (p :: q :: r :: s :: x :: (A ++ B)) := by
  classical
  refine List.perm_iff_count.2 fun y => ?_
  simp only [List.count_cons, List.count_append, List.count_nil]
  omega

/-- rows that are being read -/
def TS (W : World) (B : List UInt8) (g2 g3 g4 g5 : Nat) (r : Re) (s : Rs) (w : World) : Prop :=
  ∃ a e vt vd ht hd, Qs B s a e ∧ RowH 51 3 vt r.ts.length (r.ts.flatMap txV) ht ∧ RowH 53 2 vd r.ds.length (r.ds.flatMap diV) hd ∧ (∀ p ∈ ht ++ hd, W.heap.size ≤ p.1) ∧ Upd W w [] ∧
    Owns w ((g5, reO re0 nilS nilS) :: (g4, qO [] 0 0) :: (g3, reO r vt vd) :: (g2, qO B a e) :: (ht ++ hd))

theorem tables_spec' (W : World) (B : List UInt8) (a e : Nat) (s : Rs) (r : Re) (hB : B.length ≤ 140737488355328) (hs : Qs B s a e) (hc : r.kind = 8) (h0 : r.ts = [] ∧ r.ds = []) : CallsR Try.prog 29 #[qV B a e, .agg (reV r nilS nilS).toArray] W fun u w' => ∃ a' e' x, Qs B (gTab r s).2 a' e' ∧ u = .tuple #[qV B a' e', x] ∧ NewRe W w' x (gTab r s).1 := by
  have e0 : (gTab r s) = ({ r with ts := (many gTx (tk s 1).1 (tk s 1).2).1, ds := (many gDi (tk (many gTx (tk s 1).1 (tk s 1).2).2 1).1 (tk (many gTx (tk s 1).1 (tk s 1).2).2 1).2).1 }, (many gDi (tk (many gTx (tk s 1).1 (tk s 1).2).2 1).1 (tk (many gTx (tk s 1).1 (tk s 1).2).2 1).2).2) := by
    unfold gTab; rw [if_pos hc]
  rw [e0]
  clear e0
  apply flotillaref05_tables_sound
  unfold flotillaref05_tables_x
  refine st_box (Upd.refl W []) (Owns.nil W) ?_
  intro g2 w1 hU1 hO1 hg2
  refine st_box hU1 hO1 ?_
  intro g3 w2 hU2 hO2 hg3
  refine st_alloc ze_q hU2 hO2 ?_
  intro g4 w3 hU3 hO3 hg4
  refine st_alloc ze_re hU3 hO3 ?_
  intro g5 w4 hU4 hO4 hg5
  have hO4 : Owns w4 [(g5, reO re0 nilS nilS), (g4, qO [] 0 0), (g3, reO r nilS nilS), (g2, qO B a e)] := hO4
  refine q_step hB hs 1 (by omega) hU4 hO4 3 rfl hg2 ?_
  intro w5 a5 e5 hs5 hU5 hO5
  have hn := tk_lt s 1
  generalize hN : (tk s 1).1 = n at hn ⊢
  generalize hS1 : (tk s 1).2 = s1 at hs5 ⊢
  have hts : { r with ts := (many gTx 0 s1).1 } = r := by cases r; simp only at h0; simp [many, h0.1]
  refine st_loop (fun vs w' => ∃ i : Nat, i ≤ n ∧ vs.getD 0 undef = .int .u64 (i : Nat) ∧ TS W B g2 g3 g4 g5 { r with ts := (many gTx i s1).1 } (many gTx i s1).2 w') (fun vs _ => n - (intOf (vs.getD 0 undef)).toNat) ⟨0, by omega, rfl, by rw [hts]; exact ⟨a5, e5, nilS, nilS, [], [], hs5, by rw [h0.1]; exact RowH.nil_ _ _, by rw [h0.2]; exact RowH.nil_ _ _, (fun p hp => by cases hp), hU5, hO5⟩⟩ ?_
  clear hts hU5 hO5 hs5
  rintro dv vs w6 - ⟨i, hi, e0, a6, e6, vt, vd, ht, hd, hs6, h1, h2, h3, hU6, hO6⟩
  simp (disch := omega) only [e0, PX, BX]
  have hml := many_len gTx i s1
  refine ⟨fun hlt => ?_, fun hge => ?_⟩
  · generalize hrc : ({ r with ts := (many gTx i s1).1 } : Re) = rc at hO6 h1 h2
    generalize hsc : (many gTx i s1).2 = sc at hs6
    have hrcl : rc.ts.length = i := by rw [← hrc]; exact hml
    refine q_step hB hs6 4 (by omega) hU6 hO6 3 rfl hg2 ?_
    intro w7 a7 e7 hs7 hU7 hO7
    refine q_step hB hs7 1 (by omega) hU7 hO7 3 rfl hg2 ?_
    intro w8 a8 e8 hs8 hU8 hO8
    refine q_step hB hs8 8 (by omega) hU8 hO8 3 rfl hg2 ?_
    intro w9 a9 e9 hs9 hU9 hO9
    have hO9 : Owns w9 ((g5, reO re0 nilS nilS) :: (g4, qO [] 0 0) :: (g3, reO rc vt vd) :: (g2, qO B a9 e9) :: (ht ++ hd)) := hO9
    have t1 := tk_lt sc 4
    have t2 := tk_lt (tk sc 4).2 1
    have c10 : w9.cell? ⟨g3, 10, none⟩ = some vt := (At.of (hO9.at_ 2 rfl)).c10
    simp (disch := first | assumption | omega) only [PX, LX, add_mk, Nat.reduceAdd, w64]
    rw [step_run (build_tx _ _ _ _)]
    generalize htx : (⟨((tk sc 4).1 : Nat), ((tk (tk sc 4).2 1).1 : Nat), (tk (tk (tk sc 4).2 1).2 8).1⟩ : Tx) = tx
    refine st_newRow (row_tx tx) hU9 hO9 ?_
    intro g7 w10 hU10 hO10 hg7
    obtain ⟨inf, hi1, hz1, hsz, hby⟩ := inf51
    refine st_append (h := ht) (ys := txV tx) (m := 1) u30 hi1 hz1 hsz hby rfl (by omega) h1 (hO10.perm (perm_t _ _ _ _ _ ht hd)) hU10 (fun p hp => .inr (h3 p (List.mem_append_left _ hp))) (rd_rowN (n := 1) (c := 1) (xs := txV tx) (hO10.at_ 0 rfl) rfl (by omega) rfl) (txV_one tx) (by rw [hrcl]; unfold maxLen; omega) (by rw [hrcl]; omega) ?_
    intro v11 w11 h11 hr11 hO11 hU11 hh11
    have hO11 := hO11.perm (perm_t' _ _ _ _ _ h11 hd)
    refine st_storeB sz30 (RowH.one hr11).2 hU11 hO11 2 rfl (by simp [reV]) (.inr (Nat.zero_le _)) (.inr hg3) ?_
    intro w12 hU12 hO12
    have hO12 : Owns w12 ((g5, reO re0 nilS nilS) :: (g4, qO [] 0 0) :: (g3, reO { rc with ts := rc.ts ++ [tx] } v11 vd) :: (g2, qO B a9 e9) :: (g7, .cells (txV tx).toArray 51 (0, 0)) :: (h11 ++ hd)) := hO12
    have hrow : RowH 51 3 v11 (rc.ts ++ [tx]).length ((rc.ts ++ [tx]).flatMap txV) h11 := by
      rw [flat_snoc, List.length_append]; exact hr11
    refine ⟨⟨i + 1, by omega, ?_, ?_⟩, ?_⟩
    · rw [show ((i : Nat) : Int) + 1 = ((i + 1 : Nat) : Int) by omega, wrapU64, Nat.mod_eq_of_lt (by omega)]; rfl
    · have e1 : ({ r with ts := (many gTx (i + 1) s1).1 } : Re) = { rc with ts := rc.ts ++ [tx] } := by
        rw [many_succ, ← hrc, hsc, ← htx]; rfl
      have e2 : (many gTx (i + 1) s1).2 = (tk (tk (tk sc 4).2 1).2 8).2 := by rw [many_succ, hsc]; rfl
      rw [e1, e2]
      refine ⟨a9, e9, v11, vd, h11, hd, hs9, hrow, h2, fun p hp => ?_, hU12, hO12.sub (.cons_cons _ (.cons_cons _ (.cons_cons _ (.cons_cons _ (.cons _ (List.Sublist.refl _))))))⟩
      rcases List.mem_append.1 hp with hp | hp
      · exact (hh11 p hp).resolve_left (by simp)
      · exact h3 p (List.mem_append_right _ hp)
    · rw [show ((i : Nat) : Int) + 1 = ((i + 1 : Nat) : Int) by omega, wrapU64, Nat.mod_eq_of_lt (by omega)]
      simp only [List.getD_cons_zero, intOf]; omega
  · obtain rfl : i = n := by omega
    unfold flotillaref05_tables_k1
    refine q_step hB hs6 1 (by omega) hU6 hO6 3 rfl hg2 ?_
    intro w7 a7 e7 hs7 hU7 hO7
    have hO7 : Owns w7 ((g5, reO re0 nilS nilS) :: (g4, qO [] 0 0) :: (g3, reO { r with ts := (many gTx i s1).1 } vt vd) :: (g2, qO B a7 e7) :: (ht ++ hd)) := hO7
    generalize hS2 : (many gTx i s1).2 = s2 at hs7 ⊢
    have hn2 := tk_lt s2 1
    have hd0 : { r with ts := (many gTx i s1).1, ds := (many gDi 0 (tk s2 1).2).1 } = ({ r with ts := (many gTx i s1).1 } : Re) := by cases r; simp only at h0; simp [many, h0.2]
    generalize hN2 : (tk s2 1).1 = n2 at hn2 ⊢
    generalize hS3 : (tk s2 1).2 = s3 at hs7 hd0 ⊢
    clear e0
    refine st_loop (fun vs w' => ∃ j : Nat, j ≤ n2 ∧ vs.getD 0 undef = .int .u64 (j : Nat) ∧ TS W B g2 g3 g4 g5 { r with ts := (many gTx i s1).1, ds := (many gDi j s3).1 } (many gDi j s3).2 w') (fun vs _ => n2 - (intOf (vs.getD 0 undef)).toNat) ⟨0, by omega, rfl, by rw [hd0]; exact ⟨a7, e7, vt, vd, ht, hd, hs7, h1, h2, h3, hU7, hO7⟩⟩ ?_
    clear h1 h2 h3 hd0 hO7 hs7 hU7
    rintro dv vs w8 - ⟨j, hj, e0, a8, e8, vt, vd, ht, hd, hs8, h1, h2, h3, hU8, hO8⟩
    simp (disch := omega) only [e0, PX, BX]
    have hml2 := many_len gDi j s3
    refine ⟨fun hlt => ?_, fun hge => ?_⟩
    · generalize hrc : ({ r with ts := (many gTx i s1).1, ds := (many gDi j s3).1 } : Re) = rc at hO8 h1 h2
      generalize hsc : (many gDi j s3).2 = sc at hs8
      have hrcl : rc.ds.length = j := by rw [← hrc]; exact hml2
      refine q_step hB hs8 2 (by omega) hU8 hO8 3 rfl hg2 ?_
      intro w9 a9 e9 hs9 hU9 hO9
      refine q_step hB hs9 8 (by omega) hU9 hO9 3 rfl hg2 ?_
      intro w10 a10 e10 hs10 hU10 hO10
      have hO10 : Owns w10 ((g5, reO re0 nilS nilS) :: (g4, qO [] 0 0) :: (g3, reO rc vt vd) :: (g2, qO B a10 e10) :: (ht ++ hd)) := hO10
      have t1 := tk_lt sc 2
      have c11 : w10.cell? ⟨g3, 11, none⟩ = some vd := (At.of (hO10.at_ 2 rfl)).c11
      simp (disch := first | assumption | omega) only [PX, LX, add_mk, Nat.reduceAdd, w64]
      rw [step_run (build_di _ _ _)]
      generalize htx : (⟨((tk sc 2).1 : Nat), (tk (tk sc 2).2 8).1⟩ : Di) = di
      refine st_newRow (row_di di) hU10 hO10 ?_
      intro g7 w11 hU11 hO11 hg7
      obtain ⟨inf, hi1, hz1, hsz, hby⟩ := inf53
      refine st_append (h := hd) (ys := diV di) (m := 1) u31 hi1 hz1 hsz hby rfl (by omega) h2 (hO11.perm (perm_d _ _ _ _ _ ht hd)) hU11 (fun p hp => .inr (h3 p (List.mem_append_right _ hp))) (rd_rowN (n := 1) (c := 1) (xs := diV di) (hO11.at_ 0 rfl) rfl (by omega) rfl) (diV_one di) (by rw [hrcl]; unfold maxLen; omega) (by rw [hrcl]; omega) ?_
      intro v12 w12 h12 hr12 hO12 hU12 hh12
      have hO12 := hO12.perm (perm_d' _ _ _ _ _ ht h12)
      refine st_storeB sz31 (RowH.one hr12).2 hU12 hO12 2 rfl (by simp [reV]) (.inr (Nat.zero_le _)) (.inr hg3) ?_
      intro w13 hU13 hO13
      have hO13 : Owns w13 ((g5, reO re0 nilS nilS) :: (g4, qO [] 0 0) :: (g3, reO { rc with ds := rc.ds ++ [di] } vt v12) :: (g2, qO B a10 e10) :: (g7, .cells (diV di).toArray 53 (0, 0)) :: (ht ++ h12)) := hO13
      have hrow : RowH 53 2 v12 (rc.ds ++ [di]).length ((rc.ds ++ [di]).flatMap diV) h12 := by
        rw [flat_snoc, List.length_append]; exact hr12
      refine ⟨⟨j + 1, by omega, ?_, ?_⟩, ?_⟩
      · rw [show ((j : Nat) : Int) + 1 = ((j + 1 : Nat) : Int) by omega, wrapU64, Nat.mod_eq_of_lt (by omega)]; rfl
      · have e1 : ({ r with ts := (many gTx i s1).1, ds := (many gDi (j + 1) s3).1 } : Re) = { rc with ds := rc.ds ++ [di] } := by
          rw [many_succ, ← hrc, hsc, ← htx]; rfl
        have e2 : (many gDi (j + 1) s3).2 = (tk (tk sc 2).2 8).2 := by rw [many_succ, hsc]; rfl
        rw [e1, e2]
        refine ⟨a10, e10, vt, v12, ht, h12, hs10, h1, hrow, fun p hp => ?_, hU13, hO13.sub (.cons_cons _ (.cons_cons _ (.cons_cons _ (.cons_cons _ (.cons _ (List.Sublist.refl _))))))⟩
        rcases List.mem_append.1 hp with hp | hp
        · exact h3 p (List.mem_append_left _ hp)
        · exact (hh12 p hp).resolve_left (by simp)
      · rw [show ((j : Nat) : Int) + 1 = ((j + 1 : Nat) : Int) by omega, wrapU64, Nat.mod_eq_of_lt (by omega)]
        simp only [List.getD_cons_zero, intOf]; omega
    · obtain rfl : j = n2 := by omega
      unfold flotillaref05_tables_k2
      refine q_tail (Q := fun u w' => ∃ a' e' x, Qs B _ a' e' ∧ u = .tuple #[qV B a' e', x] ∧ NewRe W w' x _) hU8 hO8 (RowH.one h1).1 (RowH.one h2).1 hg4 hg5 ?_
      intro w' hU' hO'
      exact ⟨a8, e8, _, hs8, rfl, vt, vd, ht, hd, rfl, h1, h2, h3, hO', hU'⟩
end Go.Proofs.Ytconmaojfkmlnaa.Rec
