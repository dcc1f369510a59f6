/- RecBack. -/
import Derived.Test.YtconmaojfkmlnaaRecW1
namespace Go.Proofs.Ytconmaojfkmlnaa.Rec
open Go Go.Proofs.Ytconmaojfkmlnaa Go.Proofs.Ytconmaojfkmlnaa.Enc Xf Go.RowKit
set_option linter.unusedVariables false
set_option linter.unusedSimpArgs false
set_option maxRecDepth 100000

theorem RecBack_spec (W : World) (va vb : Value) (a : Re) (l : List UInt8) (ha : RdRe W va a) (hsa : shortR a) (hb : Rd W 1 vb l.length (bytesV l)) : CallsR Try.prog 8 #[va, vb] W fun r w' => r = .bool true ∧ Upd W w' [] := by
  apply flotillalaw05_RecBack_sound
  unfold flotillalaw05_RecBack_x flotillalaw05_RecBack_k1 flotillalaw05_RecBack_k2
  have ha0 := ha
  obtain ⟨at', ad, rfl, hat, had⟩ := ha0
  obtain ⟨Ab, cb, rfl, hcb⟩ := hb
  have hb : Rd W 1 (.slice Ab l.length cb) l.length (bytesV l) := ⟨Ab, cb, rfl, hcb⟩
  refine st_box (Upd.refl W []) (Owns.nil W) ?_
  intro g w1 hU1 hO1 hg
  let H := [(g, reO a at' ad)]
  have hO1 : Owns w1 H := hO1
  rw [step_run (run_re (hO1.at_ 0 rfl))]
  refine st_call (light_spec w1 _ a (shortR_sum hsa) (ha.mono hU1)) ?_
  rintro _ w2 ⟨rfl, hU2⟩
  have hO2 := hO1.ext hU2
  have hU2 := hU1.trans hU2
  simp only [PX, BX]
  refine ⟨fun _ => ⟨fun _ => fin_lives hU2, fun hlen => ?_⟩, fun _ => fin_lives hU2⟩
  rw [step_run (run_re (hO2.at_ 0 rfl))]
  refine st_call (Check_spec w2 _ a (ha.mono hU2)) ?_
  rintro _ w3 ⟨rfl, hU3⟩
  have hO3 := hO2.ext hU3
  have hU3 := hU2.trans hU3
  by_cases hka : okP a
  case neg =>
    rw [show okN (okP a) = 1 by unfold okN; rw [if_neg hka]]
    simp only [PX, BX]
    refine ⟨fun _ => ?_, fun h => absurd (by decide) h⟩
    rw [step_run (run_re (hO3.at_ 0 rfl))]
    refine st_call (Size_spec w3 _ a (ha.mono hU3)) ?_
    rintro _ w4 ⟨rfl, hU4⟩
    rw [if_neg hka]
    simp only [PX, BX]
    exact ⟨fun _ => fin_lives (hU3.trans hU4), fun h => absurd (by decide) h⟩
  have ea : okN (okP a) = 0 := by unfold okN; rw [if_pos hka]
  have hl := reB_len hka
  have hf := frB_len a
  rw [ea]
  simp only [PX, BX]
  refine ⟨fun h => by simp at h, fun _ => ?_⟩
  rw [step_run (run_re (hO3.at_ 0 rfl))]
  refine st_call (Encode_spec w3 _ a (ha.mono hU3)) ?_
  rintro _ w4 ⟨x, rfl, hx⟩
  rw [if_pos hka] at hx
  have hO4 := hO3.ext (NewB.upd hx)
  have hU4 := hU3.trans (NewB.upd hx)
  simp only [PX]
  rw [step_run (run_re (hO4.at_ 0 rfl))]
  refine st_call (Frame_spec w4 _ a (ha.mono hU4)) ?_
  rintro _ w5 ⟨u, rfl, hu⟩
  rw [if_pos hka] at hu
  have hO5 := hO4.ext (NewB.upd hu)
  have hU5 := hU4.trans (NewB.upd hu)
  rw [ea]
  simp only [PX, BX]
  refine ⟨fun h => by simp at h, fun _ => ⟨fun h => by simp at h, fun _ => ?_⟩⟩
  have rx := (NewB.rd hx).mono (NewB.upd hu)
  have ru := NewB.rd hu
  obtain ⟨Ax, cx, rfl, -⟩ := NewB.rd hx
  obtain ⟨Au, cu, rfl, -⟩ := NewB.rd hu
  refine st_call (Decode_spec w5 _ (reB a) (by omega) rx) ?_
  rintro _ w6 ⟨y, rfl, hy⟩
  rw [(decR_back hka).2] at hy ⊢
  obtain ⟨yt, yd, rfl, ht1, hd1⟩ := NewRe.cells hy
  have hO6 := hO5.ext (NewRe.upd hy)
  have hU6 := hU5.trans (NewRe.upd hy)
  simp only [PX]
  refine st_alloc ze_re (Upd.refl w6 []) hO6 ?_
  intro g7 w7 hU7 hO7 hg7
  refine st_re hU7 hO7 0 (r0 := re0) (vt0 := nilS) (vd0 := nilS) rfl ht1 hd1 (.inr hg7) ?_
  intro w8 hU68 hO8
  have hO8 : Owns w8 ((g7, reO a yt yd) :: H) := hO8
  have hU8 := hU6.trans hU68
  have hU58 := (NewRe.upd hy).trans hU68
  have hyr8 := (NewRe.rd hy).mono hU68
  have hyr : RdRe w8 (.agg (reV a yt yd).toArray) a := hyr8
  simp only [PX, BX]
  refine ⟨fun h => by simp at h, fun _ => ?_⟩
  rw [step_run (run_re (hO8.at_ 0 rfl)), step_run (run_re (hO8.at_ 1 rfl))]
  refine st_call (Same_spec w8 _ _ a a hyr (ha.mono hU8)) ?_
  rintro _ w9 ⟨rfl, hU9⟩
  have hO9 := hO8.ext hU9
  have hU9' := hU8.trans hU9
  simp only [PX, BX]
  refine ⟨fun _ => ?_, fun h => by simp at h⟩
  rw [step_run (run_re (hO9.at_ 0 rfl)), step_run (run_re (hO9.at_ 1 rfl))]
  refine st_call (rSame_spec w9 _ _ a a (hyr.mono hU9) (ha.mono hU9')) ?_
  rintro _ w10 ⟨rfl, hU10⟩
  have hO10 := hO9.ext hU10
  have hU10' := hU9'.trans hU10
  simp only [PX, BX]
  refine ⟨fun _ => ?_, fun h => by simp at h⟩
  have hU5_10 : Upd w5 w10 [] := (hU58.trans hU9).trans hU10
  refine st_newRow Crc.empty_row (Upd.refl w10 []) (Owns.nil w10) ?_
  intro g11 w11 hU11 hO11 hg11
  refine Crc.st_app (F := []) (a := []) (Crc.row0 g11) hO11 hU11 (fun p hp => by simp at hp; subst hp; exact .inr hg11) (ru.mono (hU5_10.trans hU11)) (by omega) ?_
  intro v12 w12 h12 hr12 hO12 hU12 hh12
  refine Crc.st_app (F := []) hr12 hO12 hU12 hh12 (hb.mono (hU10'.trans hU12)) (by omega) ?_
  intro v13 w13 h13 hr13 hO13 hU13 hh13
  rw [List.nil_append, Nat.zero_add, ← List.length_append] at hr13
  refine st_call (Unframe_spec w13 v13 (frB a ++ l) (by rw [List.length_append]; omega) (hr13.rd hO13)) ?_
  rintro _ w14 ⟨z, rfl, hz⟩
  rw [unfR_back hka l] at hz ⊢
  obtain ⟨zt, zd, rfl, ht2, hd2⟩ := NewRe.cells hz
  have hO14 := (hO10.ext hU13).ext (NewRe.upd hz)
  have hU14 := (hU10'.trans hU13).trans (NewRe.upd hz)
  simp only [PX]
  refine st_alloc ze_re (Upd.refl w14 []) (Owns.nil w14) ?_
  intro g15 w15 hU15 hO15 hg15
  have hO15 : Owns w15 [reBlk g15 re0] := hO15
  refine st_re hU15 hO15 0 rfl ht2 hd2 (.inr hg15) ?_
  intro w16 hU16 hO16
  have hO16 : Owns w16 [(g15, reO a zt zd)] := hO16
  have hOg := hO14.ext hU16
  have hU16' := hU14.trans hU16
  simp (disch := omega) only [PX, BX, w64]
  refine ⟨fun _ => ⟨fun _ => ⟨fun _ => ?_, fun h => absurd (by omega) h⟩, fun h => by simp at h⟩, fun h => by simp at h⟩
  rw [step_run (run_re (hO16.at_ 0 rfl)), step_run (run_re (hOg.at_ 1 rfl))]
  refine st_call (rSame_spec w16 _ _ a a ((NewRe.rd hz).mono hU16) (ha.mono hU16')) ?_
  rintro _ w17 ⟨rfl, hU17⟩
  simp only [BX]
  exact ⟨fun _ => fin_lives (hU16'.trans hU17), fun h => by simp at h⟩
end Go.Proofs.Ytconmaojfkmlnaa.Rec
