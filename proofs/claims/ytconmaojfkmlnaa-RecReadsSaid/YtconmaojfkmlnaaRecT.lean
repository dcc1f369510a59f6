/- Unframe. -/
import Derived.Test.YtconmaojfkmlnaaRecS
namespace Go.Proofs.Ytconmaojfkmlnaa.Rec
open Go Go.Proofs.Ytconmaojfkmlnaa Go.Proofs.Ytconmaojfkmlnaa.Enc Xf Go.RowKit
set_option linter.unusedVariables false
set_option linter.unusedSimpArgs false
set_option maxRecDepth 100000

/-- what bytes are as a frame: the record, how many bytes it has, the error -/
noncomputable def unfR (l : List UInt8) : Re × Nat × Nat :=
  if l.length < 2 then (re0, 0, 4) else if l.length < leVal (l.take 2) + 6 then (re0, 0, 4) else
  if (Crc.openL (l.take (leVal (l.take 2) + 6))).2 ≠ 0 then (re0, 0, 6) else
  if (decR ((Crc.openL (l.take (leVal (l.take 2) + 6))).1.drop 2)).2 ≠ 0 then (re0, 0, 5) else
  ((decR ((Crc.openL (l.take (leVal (l.take 2) + 6))).1.drop 2)).1, leVal (l.take 2) + 6, 0)
theorem build_re0 (w : World) : (sBuild 33 []).run Try.prog w = .ok (.value (.agg (reV re0 nilS nilS).toArray)) w := by kernel_rfl
theorem decR_err (l : List UInt8) : (decR l).2 = 0 ∨ decR l = (re0, 5) := by unfold decR; split <;> simp
theorem NewRe.cells {W w : World} {v : Value} {r : Re} (h : NewRe W w v r) : ∃ vt vd, v = .agg (reV r vt vd).toArray ∧ vt.oneCell' = true ∧ vd.oneCell' = true := by
  obtain ⟨vt, vd, _, _, h0, h1, h2, _⟩ := h
  exact ⟨vt, vd, h0, (RowH.one h1).1, (RowH.one h2).1⟩
/-- an answer that is no record -/
theorem none_tail {W w : World} {g : Nat} {h : List (Nat × Obj)} (hU : Upd W w []) (hO : Owns w (reBlk g re0 :: h)) (hg : W.heap.size ≤ g) {Q : Value → World → Prop} {k : Value → Value} (hQ : ∀ w', Upd W w' [] → Q (k (.agg (reV re0 nilS nilS).toArray)) w') :
    (std Try.prog).step (sBuild 33 []) w fun v w => (std Try.prog).step (sStore 33 (.pointer (some ⟨g, 0, none⟩)) v) w fun _ w => (std Try.prog).loadR 33 (.pointer (some ⟨g, 0, none⟩)) w fun r => Q (k r) w := by
  rw [step_run (build_re0 w)]
  refine st_re hU hO 0 rfl rfl rfl (.inr hg) ?_
  intro w' hU' hO'
  exact st_loadR (run_loadVarN (cs := reV re0 nilS nilS) ag33 (by rw [sz33]; rfl) (cells_read (hO'.at_ 0 rfl))) (hQ w' hU')

theorem Unframe_spec (W : World) (v : Value) (l : List UInt8) (hl : l.length ≤ 140737488300000) (hr : Rd W 1 v l.length (bytesV l)) : CallsR Try.prog 12 #[v] W fun u w' => ∃ x, u = .tuple #[x, .int .i64 ((unfR l).2.1 : Nat), .int .i64 ((unfR l).2.2 : Nat)] ∧ NewRe W w' x (unfR l).1 := by
  apply rec_Unframe_sound
  unfold rec_Unframe_x
  refine st_alloc ze_re (Upd.refl W []) (Owns.nil W) ?_
  intro g w1 hU1 hO1 hg
  have hO1 : Owns w1 [reBlk g re0] := hO1
  refine st_call (Read_spec w1 v l (by omega) (hr.mono hU1)) ?_
  rintro _ w2 ⟨gd, hb, rfl, hI, -⟩
  refine st_call (gTwo (s := (l, 0)) hI) ?_
  rintro _ w3 ⟨rfl, hk, hI⟩
  simp (disch := omega) only [PX, w64]
  refine st_call (rErr_spec hI) ?_
  rintro _ w4 ⟨rfl, rfl⟩
  have hU4 := hU1.trans hI.mid
  have hO4 := hO1.ext hI.mid
  have endT : unfR l = (re0, 0, 4) → ∀ w', Upd W w' [] → ∃ x, Value.tuple #[.agg (reV re0 nilS nilS).toArray, .int .i64 0, .int .i64 4] = .tuple #[x, .int .i64 ((unfR l).2.1 : Nat), .int .i64 ((unfR l).2.2 : Nat)] ∧ NewRe W w' x (unfR l).1 := fun h w' hU => by rw [h]; exact ⟨_, rfl, NewRe.zero hU⟩
  simp (disch := omega) only [PX, BX]
  by_cases h2 : l.length < 2
  · have hu : unfR l = (re0, 0, 4) := by unfold unfR; rw [if_pos h2]
    have ht : (tk (l, 0) 2).2.2 = 4 := by unfold tk takeR; rw [if_neg (by simp), if_pos h2]
    rw [ht]
    exact ⟨fun _ => none_tail (k := fun r => .tuple #[r, .int .i64 0, .int .i64 4]) (Q := fun u w' => ∃ x, u = .tuple #[x, .int .i64 ((unfR l).2.1 : Nat), .int .i64 ((unfR l).2.2 : Nat)] ∧ NewRe W w' x (unfR l).1) hU4 hO4 hg fun w' hU => endT hu w' hU, fun h => absurd (by decide) h⟩
  have ht : tk (l, 0) 2 = (leVal (l.take 2), (l.drop 2, 0)) := by unfold tk takeR; rw [if_neg (by simp), if_neg h2]
  rw [ht] at hk ⊢
  simp only at hk ⊢
  refine ⟨fun h => absurd rfl h, fun _ => ?_⟩
  obtain ⟨A, c, rfl, hc⟩ := hr
  have hr : Rd W 1 (.slice A l.length c) l.length (bytesV l) := ⟨A, c, rfl, hc⟩
  simp (disch := omega) only [PX, BX]
  generalize hn : leVal (l.take 2) = n at hk ⊢
  refine ⟨fun hlt => ?_, fun hge => ?_⟩
  · exact none_tail (k := fun r => .tuple #[r, .int .i64 0, .int .i64 4]) (Q := fun u w' => ∃ x, u = .tuple #[x, .int .i64 ((unfR l).2.1 : Nat), .int .i64 ((unfR l).2.2 : Nat)] ∧ NewRe W w' x (unfR l).1) hU4 hO4 hg fun w' hU => endT (by unfold unfR; rw [if_neg h2, hn, if_pos (by omega)]) w' hU
  have hlt : ¬ l.length < n + 6 := by omega
  have hk6 : ((n : Int) + 6).toNat = n + 6 := by omega
  rw [step_run (run_sliceTo u22 sz5 (by omega) (by omega)), hk6]
  have hrt := (hr.mono hU4).take (i := n + 6) (by omega)
  rw [Nat.mul_one, show (bytesV l).take (n + 6) = bytesV (l.take (n + 6)) by simp [bytesV, List.map_take]] at hrt
  have hlen : (l.take (n + 6)).length = n + 6 := by rw [List.length_take]; omega
  refine st_call (Crc.Open_spec w4 _ (l.take (n + 6)) (by omega) (by rw [hlen]; exact hrt)) ?_
  rintro _ w5 ⟨u, rfl, hN⟩
  have hN : NewB w4 w5 u (Crc.openL (l.take (n + 6))).1 := hN
  have hU5 := hU4.trans (NewB.upd hN)
  have hO5 := hO4.ext (NewB.upd hN)
  have hop : Crc.openL (l.take (n + 6)) = ([], 6) ∨ ((Crc.openL (l.take (n + 6))).2 = 0 ∧ (Crc.openL (l.take (n + 6))).1.length = n + 2) := by
    unfold Crc.openL
    rw [if_neg (by omega)]
    split
    · right; refine ⟨rfl, ?_⟩; simp only; rw [List.length_take]; omega
    · left; rfl
  simp only [PX, BX]
  generalize hX : Crc.openL (l.take (n + 6)) = X at hN hop ⊢
  have hunf : unfR l = if X.2 ≠ 0 then (re0, 0, 6) else if (decR (X.1.drop 2)).2 ≠ 0 then (re0, 0, 5) else ((decR (X.1.drop 2)).1, n + 6, 0) := by
    unfold unfR
    rw [if_neg h2, hn, if_neg hlt, hX]
  refine ⟨fun hne => ?_, fun heq => ?_⟩
  · have h6 : X = ([], 6) := hop.resolve_right fun h => hne (by rw [h.1]; rfl)
    subst h6
    refine none_tail (k := fun r => .tuple #[r, .int .i64 0, .int .i64 ((6 : Nat) : Int)]) (Q := fun u w' => ∃ x, u = .tuple #[x, .int .i64 ((unfR l).2.1 : Nat), .int .i64 ((unfR l).2.2 : Nat)] ∧ NewRe W w' x (unfR l).1) hU5 hO5 hg fun w' hU => ?_
    rw [hunf, if_pos (by simp)]
    exact ⟨_, rfl, NewRe.zero hU⟩
  have hX0 : X.2 = 0 := by
    rcases hop with h | h
    · rw [h] at heq; exact absurd (by decide) heq
    · exact h.1
  have hXl : X.1.length = n + 2 := by
    rcases hop with h | h
    · rw [h] at hX0; cases hX0
    · exact h.2
  rw [if_neg (by rw [hX0]; simp)] at hunf
  have hxr := NewB.rd hN
  obtain ⟨Ax, cx, rfl, hcx, _⟩ := hxr
  have hxr := NewB.rd hN
  rw [step_run (run_sliceFrom (i := (2 : Int)) u22 sz5 (by omega) (by omega) hcx)]
  have hxd := hxr.drop (i := 2) (by omega)
  rw [Nat.mul_one, show (bytesV X.1).drop 2 = bytesV (X.1.drop 2) by simp [bytesV, List.map_drop]] at hxd
  refine st_call (Decode_spec w5 _ (X.1.drop 2) (by rw [List.length_drop]; omega) (by rw [List.length_drop]; exact hxd)) ?_
  rintro _ w6 ⟨x, rfl, hNr⟩
  have hU6 := hU5.trans (NewRe.upd hNr)
  have hO6 := hO5.ext (NewRe.upd hNr)
  simp only [PX, BX]
  obtain ⟨xt, xd, rfl, ht1, hd1⟩ := NewRe.cells hNr
  refine st_alloc ze_re (Upd.refl w6 []) (Owns.nil w6) ?_
  intro g9 w7 hU7 hO7 hg9
  have hO7 : Owns w7 [reBlk g9 re0] := hO7
  refine st_re hU7 hO7 0 rfl ht1 hd1 (.inr hg9) ?_
  intro w8 hU8 hO8
  have hU68 := hU6.trans hU8
  have hO68 := hO6.ext hU8
  have hO8 : Owns w8 [(g9, reO (decR (X.1.drop 2)).1 xt xd)] := hO8
  refine ⟨fun hne => ?_, fun heq2 => ?_⟩
  · have h5 : decR (X.1.drop 2) = (re0, 5) := (decR_err _).resolve_left fun h => hne (by rw [h]; rfl)
    rw [h5] at hunf ⊢
    refine none_tail (k := fun r => .tuple #[r, .int .i64 0, .int .i64 ((5 : Nat) : Int)]) (Q := fun u w' => ∃ x, u = .tuple #[x, .int .i64 ((unfR l).2.1 : Nat), .int .i64 ((unfR l).2.2 : Nat)] ∧ NewRe W w' x (unfR l).1) hU68 hO68 hg fun w' hU => ?_
    rw [hunf, if_pos (by simp)]
    exact ⟨_, rfl, NewRe.zero hU⟩
  have h0 : (decR (X.1.drop 2)).2 = 0 := by
    rcases decR_err (X.1.drop 2) with h | h
    · exact h
    · rw [h] at heq2; exact absurd (by decide) heq2
  rw [if_neg (by rw [h0]; simp)] at hunf
  rw [step_run (run_re (hO8.at_ 0 rfl))]
  obtain ⟨yt, yd, ht, hd, he, r1, r2, r3, r4, r5⟩ := hNr
  have hyt : yt = xt ∧ yd = xd := by
    injection he with he
    have he := congrArg Array.toList he
    simp only [List.toList_toArray, reV, List.cons.injEq, and_true, true_and] at he
    exact ⟨he.1.symm, he.2.symm⟩
  obtain ⟨rfl, rfl⟩ := hyt
  have hgl : g < w5.heap.size := hO5.lt (p := reBlk g re0) (by simp)
  refine st_re (W := w8) (ks := [g]) (Upd.refl w8 [g]) hO68 0 rfl ht1 hd1 (.inl (by simp)) ?_
  intro w9 hU9 hO9
  have hU89 : Upd W w9 [] := hU68.then_ hU9 fun x hx => by simp at hx; subst hx; exact .inr hg
  refine st_loadR (run_loadVarN (cs := reV (decR (X.1.drop 2)).1 yt yd) ag33 (by rw [sz33]; rfl) (cells_read (hO9.at_ 0 rfl))) ?_
  rw [hunf]
  refine ⟨_, by rw [show ((n + 6 : Nat) : Int) = (n : Int) + 6 by omega]; rfl, yt, yd, ht, hd, rfl, r1, r2, fun p hp => ?_, ?_, hU89⟩
  · exact Nat.le_trans hU5.size (r3 p hp)
  · refine Owns.apart (r4.ext hU8) hU9 fun p hp => ?_
    have := r3 p hp
    simp; omega
end Go.Proofs.Ytconmaojfkmlnaa.Rec
