/- The document's reading of a record. -/
import Derived.Test.YtconmaojfkmlnaaRecU
namespace Go.Proofs.Ytconmaojfkmlnaa.Rec
open Go Go.Proofs.Ytconmaojfkmlnaa Go.Proofs.Ytconmaojfkmlnaa.Enc Xf Go.RowKit
set_option linter.unusedVariables false
set_option linter.unusedSimpArgs false
set_option maxRecDepth 100000

def Qs (B : List UInt8) (s : Rs) (a e : Nat) : Prop := a ≤ B.length ∧ s = (B.drop a, e)
section
variable {B : List UInt8} {s : Rs} {a e : Nat} {w W : World} {h : List (Nat × Obj)} {K : Value → World → Prop}
/-- a number is taken off -/
theorem q_step (hB : B.length ≤ 140737488355328) (hs : Qs B s a e) (n : Nat) (hn : n ≤ 8) (hU : Upd W w []) (hO : Owns w h) (i : Nat) {g : Nat} (hi : h[i]? = some (g, qO B a e)) (hg : W.heap.size ≤ g)
    (hk : ∀ w' a' e', Qs B (tk s n).2 a' e' → Upd W w' [] → Owns w' (h.set i (g, qO B a' e')) → K (.int .u64 ((tk s n).1 : Nat)) w') :
    (std Try.prog).step (sLoad 63 (.pointer (some ⟨g, 0, none⟩))) w fun v w => (std Try.prog).calls 26 #[v, .int .i64 (n : Nat)] w fun u w => (std Try.prog).step (sExtract u 0) w fun x w => (std Try.prog).step (sExtract u 1) w fun y w => (std Try.prog).step (sStore 63 (.pointer (some ⟨g, 0, none⟩)) x) w fun _ w => K y w := by
  obtain ⟨ha, rfl⟩ := hs
  rw [ld63 (hO.at_ i hi)]
  refine st_call (refTake_spec w B a e n ha hB hn) ?_
  rintro _ w2 ⟨rfl, hU2⟩
  rw [px_ext20, px_ext21]
  refine st_q (hU.trans hU2) (hO.ext hU2) i hi hg ?_
  intro w3 hU3 hO3 _
  exact hk w3 _ _ ⟨takeQ_le ha, by show (takeR (B.drop a) e n).2 = _; exact takeQ_eq B a e n⟩ hU3 hO3
/-- a text is taken off -/
theorem q_text (hB : B.length ≤ 140737488355328) (hs : Qs B s a e) (m : Int) (hU : Upd W w []) (hO : Owns w h) (i : Nat) {g : Nat} (hi : h[i]? = some (g, qO B a e)) (hg : W.heap.size ≤ g)
    (hk : ∀ w' a' e', Qs B (tt s m).2 a' e' → Upd W w' [] → Owns w' (h.set i (g, qO B a' e')) → K (.string ⟨(tt s m).1.toArray⟩) w') :
    (std Try.prog).step (sLoad 63 (.pointer (some ⟨g, 0, none⟩))) w fun v w => (std Try.prog).calls 61 #[v, .int .i64 m] w fun u w => (std Try.prog).step (sExtract u 0) w fun x w => (std Try.prog).step (sExtract u 1) w fun y w => (std Try.prog).step (sStore 63 (.pointer (some ⟨g, 0, none⟩)) x) w fun _ w => K y w := by
  obtain ⟨ha, rfl⟩ := hs
  rw [ld63 (hO.at_ i hi)]
  refine st_call (refTakeText_spec w B a e m ha hB) ?_
  rintro _ w2 ⟨rfl, hU2⟩
  rw [px_ext20, px_ext21]
  refine st_q (hU.trans hU2) (hO.ext hU2) i hi hg ?_
  intro w3 hU3 hO3 _
  exact hk w3 _ _ ⟨textQ_le ha, by show (textR (B.drop a) e m).2 = _; exact textQ_eq B a e m⟩ hU3 hO3
end
theorem ze_q : (Try.prog.info? 63).bind (·.zero) = some (.agg #[.string ⟨#[]⟩, .int .i64 0, .int .i64 0]) := ze63
theorem q0_eq : (qO [] 0 0) = .cells #[.string ⟨#[]⟩, .int .i64 0, .int .i64 0] 63 (0, 0) := rfl

/-- the end of a function that answers a reader and a record -/
theorem q_tail {W w : World} {B : List UInt8} {a e g2 g3 g4 g5 : Nat} {r : Re} {vt vd : Value} {F : List (Nat × Obj)} {Q : Value → World → Prop} (hU : Upd W w []) (hO : Owns w ((g5, reO re0 nilS nilS) :: (g4, qO [] 0 0) :: (g3, reO r vt vd) :: (g2, qO B a e) :: F)) (ht : vt.oneCell' = true) (hd : vd.oneCell' = true) (h4 : W.heap.size ≤ g4) (h5 : W.heap.size ≤ g5)
    (hQ : ∀ w', Upd W w' [] → Owns w' F → Q (.tuple #[qV B a e, .agg (reV r vt vd).toArray]) w') :
    (std Try.prog).draw w fun S_1 w => (std Try.prog).stepS S_1 (sLoad 63 (.pointer (some ⟨g2, 0, none⟩))) fun v45 => (std Try.prog).stepS S_1 (sLoad 33 (.pointer (some ⟨g3, 0, none⟩))) fun v46 => (std Try.prog).step (sStore 63 (.pointer (some ⟨g4, 0, none⟩)) v45) w fun _ w => (std Try.prog).keepS S_1 w fun S_2 => (std Try.prog).step (sStore 33 (.pointer (some ⟨g5, 0, none⟩)) v46) w fun _ w => (std Try.prog).keepT w fun S_3 => (std Try.prog).loadR 63 (.pointer (some ⟨g4, 0, none⟩)) w fun r_1 => (std Try.prog).loadR 33 (.pointer (some ⟨g5, 0, none⟩)) w fun r_2 => Q (.tuple #[r_1, r_2]) w := by
  have hO1 := hO.ext (Upd.drew w [])
  let S : World → Prop := fun w' => w'.heap[g2]? = some (qO B a e) ∧ w'.heap[g3]? = some (reO r vt vd)
  have hS : S w.drew := ⟨hO1.at_ 3 rfl, hO1.at_ 2 rfl⟩
  have hne : ∃ w', S w' := ⟨_, hS⟩
  refine st_draw S hS ?_
  rw [stepS_run hne fun w' h => run_sLoad (run_loadVarN (cs := [.string ⟨B.toArray⟩, .int .i64 (a : Nat), .int .i64 (e : Nat)]) ag63 (by rw [sz63]; rfl) (cells_read h.1)), stepS_run hne fun w' h => run_re h.2]
  refine st_q (hU.trans (Upd.drew w [])) hO1 1 rfl h4 ?_
  intro w2 hU2 hO2 _
  refine st_same ⟨hO2.at_ 3 rfl, hO2.at_ 2 rfl⟩ ?_
  refine st_re (r0 := re0) (vt0 := nilS) (vd0 := nilS) hU2 hO2 0 rfl ht hd (.inr h5) ?_
  intro w3 hU3 hO3
  refine st_keepT (fun _ => True) trivial ?_
  refine ldr63 (B := B) (a := a) (e := e) (hO3.at_ 1 rfl) ?_
  refine st_loadR (run_loadVarN (cs := reV r vt vd) ag33 (by rw [sz33]; rfl) (cells_read (hO3.at_ 0 rfl))) ?_
  exact hQ w3 hU3 (hO3.sub (.cons _ (.cons _ (.cons _ (.cons _ (List.Sublist.refl _))))))

theorem change_spec (w : World) (B : List UInt8) (a e : Nat) (s : Rs) (r : Re) (hB : B.length ≤ 140737488355328) (hs : Qs B s a e) (hc : chgP r.kind) : CallsR Try.prog 28 #[qV B a e, .agg (reV r nilS nilS).toArray] w fun u w' => ∃ a' e', Qs B (gChg r s).2 a' e' ∧ u = .tuple #[qV B a' e', .agg (reV (gChg r s).1 nilS nilS).toArray] ∧ Upd w w' [] := by
  have e0 : (gChg r s) = ({ r with page := ((tk s 2).1 : Nat), ak := ((tk (tk s 2).2 1).1 : Nat), key := (tt (tk (tk s 2).2 1).2 16).1, old := (tt (tt (tk (tk s 2).2 1).2 16).2 32).1, new := (tt (tt (tt (tk (tk s 2).2 1).2 16).2 32).2 32).1 }, (tt (tt (tt (tk (tk s 2).2 1).2 16).2 32).2 32).2) := by
    unfold gChg; rw [if_pos hc]
  rw [e0]
  apply flotillaref05_change_sound
  unfold flotillaref05_change_x
  refine st_box (Upd.refl w []) (Owns.nil w) ?_
  intro g2 w1 hU1 hO1 hg2
  refine st_box hU1 hO1 ?_
  intro g3 w2 hU2 hO2 hg3
  refine st_alloc ze_q hU2 hO2 ?_
  intro g4 w3 hU3 hO3 hg4
  refine st_alloc ze_re hU3 hO3 ?_
  intro g5 w4 hU4 hO4 hg5
  have hO4 : Owns w4 [(g5, reO re0 nilS nilS), (g4, qO [] 0 0), (g3, reO r nilS nilS), (g2, qO B a e)] := hO4
  refine q_step hB hs 2 (by omega) hU4 hO4 3 rfl hg2 ?_
  intro w5 a5 e5 hs5 hU5 hO5
  have t1 := tk_lt s 2
  simp (disch := omega) only [PX, add_mk, Nat.reduceAdd, w64]
  refine st_storeB sz3 rfl hU5 hO5 2 rfl (by simp [reV]) (.inr (Nat.zero_le _)) (.inr hg3) ?_
  intro w6 hU6 hO6
  have hO6 : Owns w6 [(g5, reO re0 nilS nilS), (g4, qO [] 0 0), (g3, reO { r with page := ((tk s 2).1 : Nat) } nilS nilS), (g2, qO B a5 e5)] := hO6
  refine q_step hB hs5 1 (by omega) hU6 hO6 3 rfl hg2 ?_
  intro w7 a7 e7 hs7 hU7 hO7
  have t2 := tk_lt (tk s 2).2 1
  simp (disch := omega) only [PX, add_mk, Nat.reduceAdd, w64]
  refine st_storeB sz27 rfl hU7 hO7 2 rfl (by simp [reV]) (.inr (Nat.zero_le _)) (.inr hg3) ?_
  intro w8 hU8 hO8
  have hO8 : Owns w8 [(g5, reO re0 nilS nilS), (g4, qO [] 0 0), (g3, reO { r with page := ((tk s 2).1 : Nat), ak := ((tk (tk s 2).2 1).1 : Nat) } nilS nilS), (g2, qO B a7 e7)] := hO8
  refine q_text hB hs7 16 hU8 hO8 3 rfl hg2 ?_
  intro w9 a9 e9 hs9 hU9 hO9
  refine st_storeB sz9 rfl hU9 hO9 2 rfl (by simp [reV]) (.inr (Nat.zero_le _)) (.inr hg3) ?_
  intro w10 hU10 hO10
  have hO10 : Owns w10 [(g5, reO re0 nilS nilS), (g4, qO [] 0 0), (g3, reO { r with page := ((tk s 2).1 : Nat), ak := ((tk (tk s 2).2 1).1 : Nat), key := (tt (tk (tk s 2).2 1).2 16).1 } nilS nilS), (g2, qO B a9 e9)] := hO10
  refine q_text hB hs9 32 hU10 hO10 3 rfl hg2 ?_
  intro w11 a11 e11 hs11 hU11 hO11
  refine st_storeB sz9 rfl hU11 hO11 2 rfl (by simp [reV]) (.inr (Nat.zero_le _)) (.inr hg3) ?_
  intro w12 hU12 hO12
  have hO12 : Owns w12 [(g5, reO re0 nilS nilS), (g4, qO [] 0 0), (g3, reO { r with page := ((tk s 2).1 : Nat), ak := ((tk (tk s 2).2 1).1 : Nat), key := (tt (tk (tk s 2).2 1).2 16).1, old := (tt (tt (tk (tk s 2).2 1).2 16).2 32).1 } nilS nilS), (g2, qO B a11 e11)] := hO12
  refine q_text hB hs11 32 hU12 hO12 3 rfl hg2 ?_
  intro w13 a13 e13 hs13 hU13 hO13
  refine st_storeB sz9 rfl hU13 hO13 2 rfl (by simp [reV]) (.inr (Nat.zero_le _)) (.inr hg3) ?_
  intro w14 hU14 hO14
  have hO14 : Owns w14 ((g5, reO re0 nilS nilS) :: (g4, qO [] 0 0) :: (g3, reO { r with page := ((tk s 2).1 : Nat), ak := ((tk (tk s 2).2 1).1 : Nat), key := (tt (tk (tk s 2).2 1).2 16).1, old := (tt (tt (tk (tk s 2).2 1).2 16).2 32).1, new := (tt (tt (tt (tk (tk s 2).2 1).2 16).2 32).2 32).1 } nilS nilS) :: (g2, qO B a13 e13) :: []) := hO14
  refine q_tail (Q := fun u w' => ∃ a' e', Qs B _ a' e' ∧ u = .tuple #[qV B a' e', .agg (reV _ nilS nilS).toArray] ∧ Upd w w' []) hU14 hO14 rfl rfl hg4 hg5 ?_
  intro w' hU' _
  exact ⟨a13, e13, hs13, rfl, hU'⟩
end Go.Proofs.Ytconmaojfkmlnaa.Rec
