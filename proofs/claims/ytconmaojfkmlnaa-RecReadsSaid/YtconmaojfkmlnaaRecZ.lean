/- The document's Decode. -/
import Derived.Test.YtconmaojfkmlnaaRecY
namespace Go.Proofs.Ytconmaojfkmlnaa.Rec
open Go Go.Proofs.Ytconmaojfkmlnaa Go.Proofs.Ytconmaojfkmlnaa.Enc Xf Go.RowKit
set_option linter.unusedVariables false
set_option linter.unusedSimpArgs false
set_option maxRecDepth 100000

/-- the document's reading: before the rows -/
def DS (W : World) (B : List UInt8) (gA gB gQ : Nat) (r : Re) (s : Rs) (w : World) : Prop :=
  ∃ a e, Qs B s a e ∧ Upd W w [] ∧ Owns w [(gQ, qO B a e), (gB, reO r nilS nilS), (gA, reO re0 nilS nilS)]
/-- and behind them -/
def DT (W : World) (B : List UInt8) (gA gB gQ : Nat) (r : Re) (s : Rs) (w : World) : Prop :=
  ∃ a e vt vd ht hd, Qs B s a e ∧ RowH 51 3 vt r.ts.length (r.ts.flatMap txV) ht ∧ RowH 53 2 vd r.ds.length (r.ds.flatMap diV) hd ∧ (∀ p ∈ ht ++ hd, W.heap.size ≤ p.1) ∧ Upd W w [] ∧ Owns w ((gQ, qO B a e) :: (gB, reO r vt vd) :: (gA, reO re0 nilS nilS) :: (ht ++ hd))
theorem build_q (B : List UInt8) (w : World) : (sBuild 63 [(0, .string ⟨B.toArray⟩)]).run Try.prog w = .ok (.value (qV B 0 0)) w := by kernel_rfl

theorem rDecode_spec (W : World) (B : List UInt8) (hB : B.length ≤ 140737488355328) : CallsR Try.prog 11 #[.string ⟨B.toArray⟩] W fun u w' => ∃ x, u = .tuple #[x, .int .i64 ((decR B).2 : Nat)] ∧ NewRe W w' x (decR B).1 := by
  apply flotillaref05_Decode_sound
  unfold flotillaref05_Decode_x
  refine st_alloc ze_re (Upd.refl W []) (Owns.nil W) ?_
  intro gA w1 hU1 hO1 hgA
  rw [step_run (build_re0 w1)]
  refine st_alloc ze_re hU1 hO1 ?_
  intro gB w2 hU2 hO2 hgB
  refine st_re (r0 := re0) (vt0 := nilS) (vd0 := nilS) hU2 hO2 0 rfl rfl rfl (.inr hgB) ?_
  intro w3 hU3 hO3
  rw [step_run (build_q B w3)]
  refine st_alloc ze_q hU3 hO3 ?_
  intro gQ w4 hU4 hO4 hgQ
  refine st_q hU4 hO4 0 rfl hgQ ?_
  intro w5 hU5 hO5 _
  have hO5 : Owns w5 [(gQ, qO B 0 0), (gB, reO re0 nilS nilS), (gA, reO re0 nilS nilS)] := hO5
  have hs : Qs B (B, 0) 0 0 := ⟨by omega, by rw [List.drop_zero]⟩
  refine q_step hB hs 1 (by omega) hU5 hO5 0 rfl hgQ ?_
  intro w6 a6 e6 hs6 hU6 hO6
  have t1 := tk_lt (B, 0) 1
  simp (disch := omega) only [PX, add_mk, Nat.reduceAdd, w64]
  refine st_storeB sz24 rfl hU6 hO6 1 rfl (by simp [reV]) (.inr (Nat.zero_le _)) (.inr hgB) ?_
  intro w7 hU7 hO7
  refine q_step hB hs6 8 (by omega) hU7 hO7 0 rfl hgQ ?_
  intro w8 a8 e8 hs8 hU8 hO8
  refine st_storeB sz26 rfl hU8 hO8 1 rfl (by simp [reV]) (.inr (Nat.zero_le _)) (.inr hgB) ?_
  intro w9 hU9 hO9
  refine q_step hB hs8 4 (by omega) hU9 hO9 0 rfl hgQ ?_
  intro w10 a10 e10 hs10 hU10 hO10
  have t2 := tk_lt (tk (tk (B, 0) 1).2 8).2 4
  simp (disch := omega) only [PX, add_mk, Nat.reduceAdd, w64]
  refine st_storeB sz3 rfl hU10 hO10 1 rfl (by simp [reV]) (.inr (Nat.zero_le _)) (.inr hgB) ?_
  intro w11 hU11 hO11
  refine q_step hB hs10 8 (by omega) hU11 hO11 0 rfl hgQ ?_
  intro w12 a12 e12 hs12 hU12 hO12
  refine st_storeB sz26 rfl hU12 hO12 1 rfl (by simp [reV]) (.inr (Nat.zero_le _)) (.inr hgB) ?_
  intro w13 hU13 hO13
  have hD : DS W B gA gB gQ (gHead (B, 0)).1 (gHead (B, 0)).2 w13 := ⟨a12, e12, hs12, hU13, hO13⟩
  clear hU1 hO1 hU2 hO2 hU3 hO3 hU4 hO4 hU5 hO5 hU6 hO6 hU7 hO7 hU8 hO8 hU9 hO9 hU10 hO10 hU11 hO11 hU12 hO12 hU13 hO13 t1 t2
  generalize hq : gHead (B, 0) = q at hD
  have hqt : q.1.ts = [] ∧ q.1.ds = [] := by subst hq; exact ⟨rfl, rfl⟩
  -- a change
  refine st_join (fun _ w' => DS W B gA gB gQ (gChg q.1 q.2).1 (gChg q.1 q.2).2 w') ?_ ?_
  · intro j hj
    have hD0 := hD
    obtain ⟨a, e, hs, hU, hO⟩ := hD
    have c0 := (At.of (hO.at_ 1 rfl)).c0
    simp (disch := first | assumption | omega) only [PX, LX, add_mk, Nat.reduceAdd]
    refine st_call (Changes_spec _ _) ?_
    rintro _ v1 ⟨rfl, rfl⟩
    simp only [BX]
    refine ⟨fun hc => ?_, fun hc => hj _ _ (by unfold gChg; rw [if_neg hc]; exact hD0)⟩
    rw [ld63 (hO.at_ 0 rfl), step_run (run_re (hO.at_ 1 rfl))]
    refine st_call (change_spec _ B a e q.2 q.1 hB hs hc) ?_
    rintro _ v2 ⟨a', e', hs', rfl, hU2⟩
    simp only [PX]
    refine st_q (hU.trans hU2) (hO.ext hU2) 0 rfl hgQ ?_
    intro v3 hU3 hO3 _
    refine st_re hU3 hO3 1 rfl rfl rfl (.inr hgB) ?_
    intro v4 hU4 hO4
    exact hj _ _ ⟨a', e', hs', hU4, hO4⟩
  clear hD
  intro dv vs v1 hD
  unfold flotillaref05_Decode_j3
  have hct : (gChg q.1 q.2).1.ts = [] ∧ (gChg q.1 q.2).1.ds = [] := by unfold gChg; split <;> exact hqt
  generalize hq2 : gChg q.1 q.2 = q2 at hD hct
  -- what is undone
  refine st_join (fun _ w' => DS W B gA gB gQ (gUndo q2.1 q2.2).1 (gUndo q2.1 q2.2).2 w') ?_ ?_
  · intro j hj
    have hD0 := hD
    obtain ⟨a, e, hs, hU, hO⟩ := hD
    have c0 := (At.of (hO.at_ 1 rfl)).c0
    simp (disch := first | assumption | omega) only [PX, BX, LX, add_mk, Nat.reduceAdd]
    refine ⟨fun hc => ?_, fun hc => hj _ _ (by unfold gUndo; rw [if_neg hc]; exact hD0)⟩
    refine q_step hB hs 8 (by omega) hU hO 0 rfl hgQ ?_
    intro v2 a' e' hs' hU2 hO2
    refine st_storeB sz26 rfl hU2 hO2 1 rfl (by simp [reV]) (.inr (Nat.zero_le _)) (.inr hgB) ?_
    intro v3 hU3 hO3
    refine hj _ _ ?_
    unfold gUndo
    rw [if_pos hc]
    exact ⟨a', e', hs', hU3, hO3⟩
  clear hD
  intro dv vs v2 hD
  unfold flotillaref05_Decode_j2
  have hut : (gUndo q2.1 q2.2).1.ts = [] ∧ (gUndo q2.1 q2.2).1.ds = [] := by unfold gUndo; split <;> exact hct
  generalize hq3 : gUndo q2.1 q2.2 = q3 at hD hut
  have hall : gAll B = gTab q3.1 q3.2 := by unfold gAll; simp only; rw [hq, hq2, hq3]
  have hlen : (gTab q3.1 q3.2).1.ts.length ≤ 1000 ∧ (gTab q3.1 q3.2).1.ds.length ≤ 1000 := by
    unfold gTab
    split
    · simp only
      rw [many_len, many_len]
      have h1 := tk_lt q3.2 1
      have h2 := tk_lt (many gTx (tk q3.2 1).1 (tk q3.2 1).2).2 1
      omega
    · rw [hut.1, hut.2]; simp
  -- the rows
  refine st_join (fun _ w' => DT W B gA gB gQ (gAll B).1 (gAll B).2 w') ?_ ?_
  · intro j hj
    rw [hall] at hj
    obtain ⟨a, e, hs, hU, hO⟩ := hD
    have c0 := (At.of (hO.at_ 1 rfl)).c0
    simp (disch := first | assumption | omega) only [PX, BX, LX, add_mk, Nat.reduceAdd]
    refine ⟨fun hc => ?_, fun hc => hj [] _ (by unfold gTab; rw [if_neg hc]; exact ⟨a, e, nilS, nilS, [], [], hs, by rw [hut.1]; exact RowH.nil_ _ _, by rw [hut.2]; exact RowH.nil_ _ _, (fun p hp => by cases hp), hU, hO⟩)⟩
    rw [ld63 (hO.at_ 0 rfl), step_run (run_re (hO.at_ 1 rfl))]
    refine st_call (tables_spec' _ B a e q3.2 q3.1 hB hs hc hut) ?_
    rintro _ v3 ⟨a', e', x, hs', rfl, vt, vd, ht, hd, rfl, r1, r2, r3, r4, r5⟩
    simp only [PX]
    have hO3 : Owns v3 ((gQ, qO B a e) :: (gB, reO q3.1 nilS nilS) :: (gA, reO re0 nilS nilS) :: (ht ++ hd)) := (owns_app hO r5 r4 r3).perm List.perm_append_comm
    refine st_q (hU.trans r5) hO3 0 rfl hgQ ?_
    intro v4 hU4 hO4 _
    refine st_re hU4 hO4 1 rfl (RowH.one r1).1 (RowH.one r2).1 (.inr hgB) ?_
    intro v5 hU5 hO5
    exact hj [] _ ⟨a', e', vt, vd, ht, hd, hs', r1, r2, fun p hp => Nat.le_trans hU.size (r3 p hp), hU5, hO5⟩
  clear hD
  rintro dv vs v3 ⟨a, e, vt, vd, ht, hd, ⟨ha, hs⟩, r1, r2, r3, hU, hO⟩
  rw [← hall] at hlen
  unfold flotillaref05_Decode_j1
  rw [ld63 (hO.at_ 0 rfl)]
  refine st_call (refEnd_spec v3 B a e ha (by unfold maxLen; omega)) ?_
  rintro _ v4 ⟨rfl, hU4⟩
  have hO4 := hO.ext hU4
  have hU4 := hU.trans hU4
  have he1 : B.drop a = (gAll B).2.1 := by rw [hs]
  have he2 : e = (gAll B).2.2 := by rw [hs]
  rw [he1, he2]
  -- no record
  have none_ : ∀ v, Upd W v [] → Owns v ((gQ, qO B a e) :: (gB, reO (gAll B).1 vt vd) :: (gA, reO re0 nilS nilS) :: (ht ++ hd)) → ¬ isRe B → (std Try.prog).step (sBuild 33 []) v fun u w => (std Try.prog).step (sStore 33 (.pointer (some ⟨gA, 0, none⟩)) u) w fun _ w => (std Try.prog).loadR 33 (.pointer (some ⟨gA, 0, none⟩)) w fun r => ∃ x, Value.tuple #[r, .int .i64 5] = .tuple #[x, .int .i64 ((decR B).2 : Nat)] ∧ NewRe W w x (decR B).1 := by
    intro v hUv hOv hn
    have hd2 : decR B = (re0, 5) := by unfold decR; rw [if_neg hn]
    rw [step_run (build_re0 v)]
    refine st_re (r := re0) hUv hOv 2 rfl rfl rfl (.inr hgA) ?_
    intro v' hU' hO'
    refine st_loadR (run_loadVarN (cs := reV re0 nilS nilS) ag33 (by rw [sz33]; rfl) (cells_read (hO'.at_ 2 rfl))) ?_
    rw [hd2]
    exact ⟨_, rfl, NewRe.zero hU'⟩
  simp only [PX, BX]
  refine ⟨fun hne => none_ v4 hU4 hO4 fun h => hne (by rw [h.1]; rfl), fun heq => ?_⟩
  have hend : endR (gAll B).2.1 (gAll B).2.2 = 0 := by omega
  rw [step_run (run_re (hO4.at_ 1 rfl))]
  have hrows : Owns v4 (ht ++ hd) := hO4.sub (.cons _ (.cons _ (.cons _ (List.Sublist.refl _))))
  have hre : RdRe v4 (.agg (reV (gAll B).1 vt vd).toArray) (gAll B).1 := ⟨vt, vd, rfl, RdS.ofRow r1 (hrows.sub (List.sublist_append_left _ _)), RdS.ofRow r2 (hrows.sub (List.sublist_append_right _ _))⟩
  refine st_call (May_spec v4 _ _ hlen hre) ?_
  rintro _ v5 ⟨rfl, hU5⟩
  have hO5 := hO4.ext hU5
  have hU5 := hU4.trans hU5
  simp only [PX, BX]
  refine ⟨fun hok => ?_, fun hno => none_ v5 hU5 hO5 fun h => hno h.2⟩
  have hd2 : decR B = ((gAll B).1, 0) := by unfold decR; rw [if_pos ⟨hend, hok⟩]
  rw [step_run (run_re (hO5.at_ 1 rfl))]
  refine st_re hU5 hO5 2 rfl (RowH.one r1).1 (RowH.one r2).1 (.inr hgA) ?_
  intro v6 hU6 hO6
  refine st_loadR (run_loadVarN (cs := reV (gAll B).1 vt vd) ag33 (by rw [sz33]; rfl) (cells_read (hO6.at_ 2 rfl))) ?_
  rw [hd2]
  exact ⟨_, rfl, vt, vd, ht, hd, rfl, r1, r2, r3, hO6.sub (.cons _ (.cons _ (.cons _ (List.Sublist.refl _)))), hU6⟩
end Go.Proofs.Ytconmaojfkmlnaa.Rec
