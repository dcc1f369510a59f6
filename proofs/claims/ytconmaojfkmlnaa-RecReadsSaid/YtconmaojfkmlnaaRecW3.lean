/- RecApart. -/
import Derived.Test.YtconmaojfkmlnaaRecW1
namespace Go.Proofs.Ytconmaojfkmlnaa.Rec
open Go Go.Proofs.Ytconmaojfkmlnaa Go.Proofs.Ytconmaojfkmlnaa.Enc Xf Go.RowKit
set_option linter.unusedVariables false
set_option linter.unusedSimpArgs false
set_option maxRecDepth 100000

theorem reB_inj {a b : Re} (ha : okP a) (hb : okP b) : reB a = reB b ↔ a = b := by
  refine ⟨fun h => ?_, fun h => by rw [h]⟩
  have h1 := gAll_back ha
  rw [h, gAll_back hb] at h1
  exact (congrArg Prod.fst h1).symm
theorem frB_inj {a b : Re} (ha : okP a) (hb : okP b) : frB a = frB b ↔ a = b := by
  refine ⟨fun h => ?_, fun h => by rw [h]⟩
  have h1 := unfR_back ha []
  rw [h, unfR_back hb []] at h1
  exact (congrArg Prod.fst h1).symm
theorem st_toStr {v : Value} {n : Nat} {l : List UInt8} {w : World} {K : Value → World → Prop} (h : Rd w 1 v n (bytesV l)) : (std Try.prog).step (sConv 22 9 v) w K = K (.string ⟨l.toArray⟩) w :=
  step_run (run_str u22 u5 u9 h)
theorem dec_mk (a b : List UInt8) : decide ((⟨a.toArray⟩ : ByteArray) = ⟨b.toArray⟩) = decide (a = b) := by simp only [mk_inj]
theorem RecApart_spec (W : World) (va vb : Value) (a b : Re) (ha : RdRe W va a) (hb : RdRe W vb b) (hsa : shortR a) (hsb : shortR b) : CallsR Try.prog 7 #[va, vb] W fun r w' => r = .bool true ∧ Upd W w' [] := by
  apply flotillalaw05_RecApart_sound
  unfold flotillalaw05_RecApart_x flotillalaw05_RecApart_k1
  have ha0 := ha
  have hb0 := hb
  obtain ⟨at', ad, rfl, hat, had⟩ := ha0
  obtain ⟨bt', bd, rfl, hbt, hbd⟩ := hb0
  refine st_box (Upd.refl W []) (Owns.nil W) ?_
  intro g w1 hU1 hO1 hg
  refine st_box hU1 hO1 ?_
  intro g2 w2 hU2 hO2 hg2
  let H := [(g2, reO b bt' bd), (g, reO a at' ad)]
  have hO2 : Owns w2 H := hO2
  rw [step_run (run_re (hO2.at_ 1 rfl))]
  refine st_call (light_spec w2 _ a (shortR_sum hsa) (ha.mono hU2)) ?_
  rintro _ w3 ⟨rfl, hU3⟩
  have hO3 := hO2.ext hU3
  have hU3 := hU2.trans hU3
  simp only [PX, BX]
  refine ⟨fun _ => ?_, fun _ => fin_lives hU3⟩
  rw [step_run (run_re (hO3.at_ 0 rfl))]
  refine st_call (light_spec w3 _ b (shortR_sum hsb) (hb.mono hU3)) ?_
  rintro _ w4 ⟨rfl, hU4⟩
  have hO4 := hO3.ext hU4
  have hU4 := hU3.trans hU4
  simp only [PX, BX]
  refine ⟨fun _ => ?_, fun _ => fin_lives hU4⟩
  rw [step_run (run_re (hO4.at_ 1 rfl))]
  refine st_call (Check_spec w4 _ a (ha.mono hU4)) ?_
  rintro _ w5 ⟨rfl, hU5⟩
  have hO5 := hO4.ext hU5
  have hU5 := hU4.trans hU5
  by_cases hka : okP a
  case neg =>
    rw [show okN (okP a) = 1 by unfold okN; rw [if_neg hka]]
    simp only [PX, BX]
    exact ⟨fun _ => fin_lives hU5, fun h => absurd (by decide) h⟩
  have ea : okN (okP a) = 0 := by unfold okN; rw [if_pos hka]
  rw [ea]
  simp only [PX, BX]
  refine ⟨fun h => by simp at h, fun _ => ?_⟩
  rw [step_run (run_re (hO5.at_ 0 rfl))]
  refine st_call (Check_spec w5 _ b (hb.mono hU5)) ?_
  rintro _ w6 ⟨rfl, hU6⟩
  have hO6 := hO5.ext hU6
  have hU6 := hU5.trans hU6
  by_cases hkb : okP b
  case neg =>
    rw [show okN (okP b) = 1 by unfold okN; rw [if_neg hkb]]
    simp only [PX, BX]
    exact ⟨fun _ => fin_lives hU6, fun h => absurd (by decide) h⟩
  have eb : okN (okP b) = 0 := by unfold okN; rw [if_pos hkb]
  rw [eb]
  simp only [PX, BX]
  refine ⟨fun h => by simp at h, fun _ => ?_⟩
  rw [step_run (run_re (hO6.at_ 1 rfl))]
  refine st_call (Encode_spec w6 _ a (ha.mono hU6)) ?_
  rintro _ w7 ⟨x, rfl, hx⟩
  rw [if_pos hka] at hx
  have hO7 := hO6.ext (NewB.upd hx)
  have hU7 := hU6.trans (NewB.upd hx)
  simp only [PX]
  rw [step_run (run_re (hO7.at_ 0 rfl))]
  refine st_call (Encode_spec w7 _ b (hb.mono hU7)) ?_
  rintro _ w8 ⟨y, rfl, hy⟩
  rw [if_pos hkb] at hy
  have hO8 := hO7.ext (NewB.upd hy)
  have hU8 := hU7.trans (NewB.upd hy)
  simp only [PX]
  rw [step_run (run_re (hO8.at_ 1 rfl))]
  refine st_call (Frame_spec w8 _ a (ha.mono hU8)) ?_
  rintro _ w9 ⟨u, rfl, hu⟩
  rw [if_pos hka] at hu
  have hO9 := hO8.ext (NewB.upd hu)
  have hU9 := hU8.trans (NewB.upd hu)
  simp only [PX]
  rw [step_run (run_re (hO9.at_ 0 rfl))]
  refine st_call (Frame_spec w9 _ b (hb.mono hU9)) ?_
  rintro _ w10 ⟨v, rfl, hv⟩
  rw [if_pos hkb] at hv
  have hO10 := hO9.ext (NewB.upd hv)
  have hU10 := hU9.trans (NewB.upd hv)
  rw [ea, eb]
  simp only [PX, BX]
  refine ⟨fun h => by simp at h, fun _ => ⟨fun h => by simp at h, fun _ => ⟨fun h => by simp at h, fun _ => ⟨fun h => by simp at h, fun _ => ?_⟩⟩⟩⟩
  rw [step_run (run_re (hO10.at_ 1 rfl)), step_run (run_re (hO10.at_ 0 rfl))]
  refine st_call (Same_spec w10 _ _ a b (ha.mono hU10) (hb.mono hU10)) ?_
  rintro _ w11 ⟨rfl, hU11⟩
  have hU11' := hU10.trans hU11
  have rx := (NewB.rd hx).mono (((NewB.upd hy).trans ((NewB.upd hu).trans (NewB.upd hv))).trans hU11)
  have ry := (NewB.rd hy).mono (((NewB.upd hu).trans (NewB.upd hv)).trans hU11)
  have ru := (NewB.rd hu).mono ((NewB.upd hv).trans hU11)
  have rv := (NewB.rd hv).mono hU11
  rw [st_toStr rx, st_toStr ry]
  simp only [PX]
  rw [dec_mk, show decide (reB a = reB b) = decide (a = b) by simp only [reB_inj hka hkb]]
  simp only [beq_self_eq_true, BX]
  rw [st_toStr ru, st_toStr rv]
  simp only [PX]
  rw [dec_mk, show decide (frB a = frB b) = decide (a = b) by simp only [frB_inj hka hkb]]
  simp only [beq_self_eq_true, BX]
  exact fin_lives hU11'
end Go.Proofs.Ytconmaojfkmlnaa.Rec
