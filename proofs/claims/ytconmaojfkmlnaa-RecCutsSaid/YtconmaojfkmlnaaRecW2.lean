/- RecCuts. -/
import Derived.Test.YtconmaojfkmlnaaRecW1
namespace Go.Proofs.Ytconmaojfkmlnaa.Rec
open Go Go.Proofs.Ytconmaojfkmlnaa Go.Proofs.Ytconmaojfkmlnaa.Enc Xf Go.RowKit
set_option linter.unusedVariables false
set_option linter.unusedSimpArgs false
set_option maxRecDepth 100000

theorem okN_ne {r : Re} : (((okN (okP r) : Nat) : Int) = 0) = okP r := by
  unfold okN; split <;> simp_all
theorem RecCuts_spec (W : World) (v : Value) (r : Re) (cut : Int) (h : RdRe W v r) (hc : in64 cut) : CallsR Try.prog 4 #[v, .int .i64 cut] W fun u w' => u = .bool true ∧ Upd W w' [] := by
  apply flotillalaw05_RecCuts_sound
  unfold flotillalaw05_RecCuts_x
  have h0 := h
  obtain ⟨vt, vd, rfl, hT, hD⟩ := h0
  refine st_box (Upd.refl W []) (Owns.nil W) ?_
  intro g w1 hU1 hO1 hg
  have hO1 : Owns w1 [(g, reO r vt vd)] := hO1
  rw [step_run (run_re (hO1.at_ 0 rfl))]
  refine st_call (Frame_spec _ _ r (h.mono hU1)) ?_
  rintro _ w2 ⟨x, rfl, hN⟩
  have hU2 := hU1.trans (NewB.upd hN)
  have hO2 := hO1.ext (NewB.upd hN)
  by_cases hok : okP r
  · have e0 : okN (okP r) = 0 := by unfold okN; rw [if_pos hok]
    rw [if_pos hok] at hN
    rw [e0]
    have hl := reB_len hok
    have hf := frB_len r
    have hx := NewB.rd hN
    obtain ⟨Ax, cx, rfl, hcx, -⟩ := hx
    have hx := NewB.rd hN
    simp (disch := omega) only [PX, BX]
    refine ⟨fun h => by simp at h, fun _ => ⟨fun h => by omega, fun _ => ?_⟩⟩
    have fin : ∀ k : Int, 0 ≤ k → k < 9223372036854775808 → flotillalaw05_RecCuts_k1 (std Try.prog) (.slice Ax (frB r).length cx) (.int .i64 k) w2 fun u w' => u = .bool true ∧ Upd W w' [] := by
      intro k hk0 hk1
      obtain ⟨n, rfl⟩ : ∃ n : Nat, k = n := ⟨k.toNat, by omega⟩
      unfold flotillalaw05_RecCuts_k1
      have hm : Int.tmod ((n : Nat) : Int) (((frB r).length : Nat) : Int) = ((n % (frB r).length : Nat) : Int) := tmod_nat _ _
      have hlt := Nat.mod_lt n (show 0 < (frB r).length by omega)
      simp (disch := omega) only [PX, BX, hm]
      generalize hq : n % (frB r).length = q at hlt
      rw [step_run (run_sliceTo (i := (q : Int)) u22 sz5 (by omega) (by omega)), show ((q : Nat) : Int).toNat = q by omega]
      have hrt := hx.take (i := q) (by omega)
      rw [Nat.mul_one, show (bytesV (frB r)).take q = bytesV ((frB r).take q) by simp [bytesV, List.map_take]] at hrt
      have hlen : ((frB r).take q).length = q := by rw [List.length_take]; omega
      refine st_call (Unframe_spec w2 _ ((frB r).take q) (by omega) (by rw [hlen]; exact hrt)) ?_
      rintro _ w3 ⟨y, rfl, hNr⟩
      rw [unfR_cut hok q hlt] at hNr ⊢
      obtain ⟨yt, yd, rfl, ht1, hd1⟩ := NewRe.cells hNr
      simp only [PX]
      refine st_alloc ze_re (Upd.refl w3 []) (Owns.nil w3) ?_
      intro g9 w4 hU4 hO4 hg9
      have hO4 : Owns w4 [reBlk g9 re0] := hO4
      refine st_re hU4 hO4 0 rfl ht1 hd1 (.inr hg9) ?_
      intro w5 hU5 hO5
      have hO5 : Owns w5 [(g9, reO re0 yt yd)] := hO5
      have hUa := (hU2.trans (NewRe.upd hNr)).trans hU5
      simp only [PX, BX]
      refine ⟨fun _ => ⟨fun _ => ?_, fun h => by simp at h⟩, fun h => by simp at h⟩
      rw [step_run (run_re (hO5.at_ 0 rfl)), step_run (build_re0 w5)]
      have hz : RdRe w5 (.agg (reV re0 nilS nilS).toArray) re0 := ⟨nilS, nilS, rfl, ⟨none, 0, rfl, by decide, Rd.nil_ _ _⟩, ⟨none, 0, rfl, by decide, Rd.nil_ _ _⟩⟩
      refine st_call (rSame_spec w5 _ _ re0 re0 ((NewRe.rd hNr).mono hU5) hz) ?_
      rintro _ w6 ⟨rfl, hU6⟩
      simp only [BX]
      exact ⟨fun _ => fin_lives (hUa.trans hU6), fun h => by simp at h⟩
    unfold in64 at hc
    refine ⟨fun hneg => ?_, fun hpos => fin cut (by omega) hc.2⟩
    have := fin (0 - (cut + 1)) (by omega) (by omega)
    simp (disch := omega) only [PX, w64]
    exact this
  · have e0 : okN (okP r) = 1 := by unfold okN; rw [if_neg hok]
    rw [if_neg hok] at hN
    rw [e0]
    simp (disch := omega) only [PX, BX]
    refine ⟨fun _ => ?_, fun h => absurd (by decide) h⟩
    rw [step_run (run_re (hO2.at_ 0 rfl))]
    refine st_call (Check_spec _ _ r (h.mono hU2)) ?_
    rintro _ w3 ⟨rfl, hU3⟩
    rw [e0]
    simp (disch := omega) only [PX, BX, beq_self_eq_true]
    exact fin_lives (hU2.trans hU3)
end Go.Proofs.Ytconmaojfkmlnaa.Rec
