/- The document's Unframe. -/
import Derived.Test.YtconmaojfkmlnaaRecZ
namespace Go.Proofs.Ytconmaojfkmlnaa.Rec
open Go Go.Proofs.Ytconmaojfkmlnaa Go.Proofs.Ytconmaojfkmlnaa.Enc Xf Go.RowKit
set_option linter.unusedVariables false
set_option linter.unusedSimpArgs false
set_option maxRecDepth 100000

theorem rUnframe_spec (W : World) (l : List UInt8) (hl : l.length ≤ 140737488300000) : CallsR Try.prog 13 #[.string ⟨l.toArray⟩] W fun u w' => ∃ x, u = .tuple #[x, .int .i64 ((unfR l).2.1 : Nat), .int .i64 ((unfR l).2.2 : Nat)] ∧ NewRe W w' x (unfR l).1 := by
  apply flotillaref05_Unframe_sound
  unfold flotillaref05_Unframe_x
  refine st_alloc ze_re (Upd.refl W []) (Owns.nil W) ?_
  intro g w1 hU1 hO1 hg
  have hO1 : Owns w1 [reBlk g re0] := hO1
  have endT : ∀ (e : Nat), unfR l = (re0, 0, e) → ∀ w', Upd W w' [] → ∃ x, Value.tuple #[.agg (reV re0 nilS nilS).toArray, .int .i64 0, .int .i64 (e : Nat)] = .tuple #[x, .int .i64 ((unfR l).2.1 : Nat), .int .i64 ((unfR l).2.2 : Nat)] ∧ NewRe W w' x (unfR l).1 := fun e h w' hU => by rw [h]; exact ⟨_, rfl, NewRe.zero hU⟩
  simp only [PX, BX, size_mk]
  refine ⟨fun h2 => ?_, fun h2 => ?_⟩
  · exact none_tail (k := fun r => .tuple #[r, .int .i64 0, .int .i64 ((4 : Nat) : Int)]) (Q := fun u w' => ∃ x, u = .tuple #[x, .int .i64 ((unfR l).2.1 : Nat), .int .i64 ((unfR l).2.2 : Nat)] ∧ NewRe W w' x (unfR l).1) hU1 hO1 hg fun w' hU => endT 4 (by unfold unfR; rw [if_pos (by omega)]) w' hU
  have h2' : ¬ l.length < 2 := by omega
  obtain ⟨b0, b1, rest, rfl⟩ : ∃ b0 b1 rest, l = b0 :: b1 :: rest := by
    match l, h2' with
    | b0 :: b1 :: rest, _ => exact ⟨b0, b1, rest, rfl⟩
    | [_], h => exact absurd (by simp) h
    | [], h => exact absurd (by simp) h
  have hn : leVal ((b0 :: b1 :: rest).take 2) = b0.toNat + 256 * b1.toNat := by simp [leVal]
  have x0 := UInt8.toNat_lt b0
  have x1 := UInt8.toNat_lt b1
  generalize hL : b0 :: b1 :: rest = l at *
  have hU2 := hU1.trans (Upd.drew w1 [])
  have hO2 := hO1.ext (Upd.drew w1 [])
  have hne : ∃ w' : World, (fun _ => True) w' := ⟨w1, trivial⟩
  refine st_draw (fun _ => True) trivial ?_
  have i0 : ∀ w : World, (sIndex 9 (.string ⟨l.toArray⟩) (.int .i64 0)).run Try.prog w = .ok (.value (.int .u8 (b0.toNat : Nat))) w := fun w => run_idxStr (i := 0) (l := l) u9 (by omega) (by rw [← hL]; rfl)
  have i1 : ∀ w : World, (sIndex 9 (.string ⟨l.toArray⟩) (.int .i64 1)).run Try.prog w = .ok (.value (.int .u8 (b1.toNat : Nat))) w := fun w => run_idxStr (i := 1) (l := l) u9 (by omega) (by rw [← hL]; rfl)
  rw [stepS_run hne fun w _ => i0 w]
  simp (disch := first | assumption | omega) only [SX, w64]
  rw [stepS_run hne fun w _ => i1 w]
  simp (disch := first | assumption | omega) only [SX, PX, BX, w64, size_mk]
  generalize hk : b0.toNat + 256 * b1.toNat = n at hn
  have hkn : ((b0.toNat : Nat) : Int) + 256 * ((b1.toNat : Nat) : Int) = (n : Int) := by omega
  rw [hkn]
  have hk6 : ((n : Int) + 6).toNat = n + 6 := by omega
  refine ⟨fun hlt => ?_, fun hge => ?_⟩
  · exact none_tail (k := fun r => .tuple #[r, .int .i64 0, .int .i64 ((4 : Nat) : Int)]) (Q := fun u w' => ∃ x, u = .tuple #[x, .int .i64 ((unfR l).2.1 : Nat), .int .i64 ((unfR l).2.2 : Nat)] ∧ NewRe W w' x (unfR l).1) hU2 hO2 hg fun w' hU => endT 4 (by unfold unfR; rw [if_neg h2', hn, if_pos (by omega)]) w' hU
  have hlt : ¬ l.length < n + 6 := by omega
  rw [step_run (run_strTo (i := (n : Int) + 6) u9 (by omega) (by omega)), hk6]
  have hlen : (l.take (n + 6)).length = n + 6 := by rw [List.length_take]; omega
  refine st_call (Crc.rOpen_spec _ (l.take (n + 6)) (by omega)) ?_
  rintro _ w5 ⟨rfl, hU5⟩
  have hO5 := hO2.ext hU5
  have hU5 := hU2.trans hU5
  have hop : Crc.openL (l.take (n + 6)) = ([], 6) ∨ ((Crc.openL (l.take (n + 6))).2 = 0 ∧ (Crc.openL (l.take (n + 6))).1.length = n + 2) := by
    unfold Crc.openL
    rw [if_neg (by omega)]
    split
    · right; refine ⟨rfl, ?_⟩; simp only; rw [List.length_take]; omega
    · left; rfl
  generalize hX : Crc.openL (l.take (n + 6)) = X at hop ⊢
  have hunf : unfR l = if X.2 ≠ 0 then (re0, 0, 6) else if (decR (X.1.drop 2)).2 ≠ 0 then (re0, 0, 5) else ((decR (X.1.drop 2)).1, n + 6, 0) := by
    unfold unfR
    rw [if_neg h2', hn, if_neg hlt, hX]
  simp only [PX, BX]
  refine ⟨fun hne => ?_, fun heq => ?_⟩
  · have h6 : X = ([], 6) := hop.resolve_right fun h => hne (by rw [h.1]; rfl)
    exact none_tail (k := fun r => .tuple #[r, .int .i64 0, .int .i64 ((6 : Nat) : Int)]) (Q := fun u w' => ∃ x, u = .tuple #[x, .int .i64 ((unfR l).2.1 : Nat), .int .i64 ((unfR l).2.2 : Nat)] ∧ NewRe W w' x (unfR l).1) hU5 hO5 hg fun w' hU => endT 6 (by rw [hunf, h6, if_pos (by simp)]) w' hU
  have hX0 : X.2 = 0 := by
    rcases hop with h | h
    · rw [h] at heq; exact absurd (by decide) heq
    · exact h.1
  have hXl : X.1.length = n + 2 := by
    rcases hop with h | h
    · rw [h] at hX0; cases hX0
    · exact h.2
  rw [if_neg (by rw [hX0]; simp)] at hunf
  rw [step_run (run_strFrom (i := (2 : Int)) u9 (by omega) (by omega)), show (2 : Int).toNat = 2 from rfl]
  refine st_call (rDecode_spec w5 (X.1.drop 2) (by rw [List.length_drop]; omega)) ?_
  rintro _ w6 ⟨x, rfl, hNr⟩
  have hU6 := hU5.trans (NewRe.upd hNr)
  have hO6 := hO5.ext (NewRe.upd hNr)
  simp only [PX, BX]
  obtain ⟨xt, xd, rfl, ht1, hd1⟩ := NewRe.cells hNr
  refine st_alloc ze_re (Upd.refl w6 []) (Owns.nil w6) ?_
  intro g9 w7 hU7 hO7 hg9
  have hO7 : Owns w7 [reBlk g9 re0] := hO7
  refine st_re hU7 hO7 0 rfl ht1 hd1 (.inr hg9) ?_
  intro w8 hU8 hO8
  have hU68 := hU6.trans hU8
  have hO68 := hO6.ext hU8
  have hO8 : Owns w8 [(g9, reO (decR (X.1.drop 2)).1 xt xd)] := hO8
  refine ⟨fun hne => ?_, fun heq2 => ?_⟩
  · have h5 : decR (X.1.drop 2) = (re0, 5) := (decR_err _).resolve_left fun h => hne (by rw [h]; rfl)
    rw [h5] at hunf ⊢
    exact none_tail (k := fun r => .tuple #[r, .int .i64 0, .int .i64 ((5 : Nat) : Int)]) (Q := fun u w' => ∃ x, u = .tuple #[x, .int .i64 ((unfR l).2.1 : Nat), .int .i64 ((unfR l).2.2 : Nat)] ∧ NewRe W w' x (unfR l).1) hU68 hO68 hg fun w' hU => endT 5 (by rw [hunf, if_pos (by simp)]) w' hU
  have h0 : (decR (X.1.drop 2)).2 = 0 := by
    rcases decR_err (X.1.drop 2) with h | h
    · exact h
    · rw [h] at heq2; exact absurd (by decide) heq2
  rw [if_neg (by rw [h0]; simp)] at hunf
  rw [step_run (run_re (hO8.at_ 0 rfl))]
  obtain ⟨yt, yd, ht, hd, he, r1, r2, r3, r4, r5⟩ := hNr
  have hyt : yt = xt ∧ yd = xd := by
    injection he with he
    have he := congrArg Array.toList he
    simp only [List.toList_toArray, reV, List.cons.injEq, and_true, true_and] at he
    exact ⟨he.1.symm, he.2.symm⟩
  obtain ⟨rfl, rfl⟩ := hyt
  have hgl : g < w5.heap.size := hO5.lt (p := reBlk g re0) (by simp)
  refine st_re (W := w8) (ks := [g]) (Upd.refl w8 [g]) hO68 0 rfl ht1 hd1 (.inl (by simp)) ?_
  intro w9 hU9 hO9
  have hU89 : Upd W w9 [] := hU68.then_ hU9 fun x hx => by simp at hx; subst hx; exact .inr hg
  refine st_loadR (run_loadVarN (cs := reV (decR (X.1.drop 2)).1 yt yd) ag33 (by rw [sz33]; rfl) (cells_read (hO9.at_ 0 rfl))) ?_
  rw [hunf]
  refine ⟨_, by rw [show ((n + 6 : Nat) : Int) = (n : Int) + 6 by omega]; rfl, yt, yd, ht, hd, rfl, r1, r2, fun p hp => ?_, ?_, hU89⟩
  · exact Nat.le_trans hU5.size (r3 p hp)
  · refine Owns.apart (r4.ext hU8) hU9 fun p hp => ?_
    have := r3 p hp
    simp; omega
end Go.Proofs.Ytconmaojfkmlnaa.Rec
