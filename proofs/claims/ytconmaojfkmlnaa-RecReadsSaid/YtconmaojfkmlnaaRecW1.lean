/- RecSames. -/
import Derived.Test.YtconmaojfkmlnaaRecV
namespace Go.Proofs.Ytconmaojfkmlnaa.Rec
open Go Go.Proofs.Ytconmaojfkmlnaa Go.Proofs.Ytconmaojfkmlnaa.Enc Xf Go.RowKit
set_option linter.unusedVariables false
set_option linter.unusedSimpArgs false
set_option maxRecDepth 100000

theorem shortR_sum {r : Re} (h : shortR r) : r.key.length + r.old.length + r.new.length < 9223372036854775808 := by
  have : reachBytes < 2 ^ 47 := reachBytes_lt
  unfold shortR at h; omega
theorem fin_lives {W w : World} (hU : Upd W w []) : (std Try.prog).calls 9 #[] w fun v w' => v = .bool true ∧ Upd W w' [] :=
  st_call (lives_spec w) fun v w' ⟨h1, h2⟩ => ⟨h1, hU.trans h2⟩
theorem fin_livesT {W w : World} (hU : Upd W w []) : (std Try.prog).calls 9 #[] w fun v w' => (std Try.prog).keepT w' fun S => v = .bool true ∧ Upd W w' [] :=
  st_call (lives_spec w) fun v w' ⟨h1, h2⟩ => ⟨fun _ => True, trivial, h1, hU.trans h2⟩

theorem RecSames_spec (W : World) (va vb : Value) (a b : Re) (ha : RdRe W va a) (hb : RdRe W vb b) (hsa : shortR a) (hsb : shortR b) : CallsR Try.prog 6 #[va, vb] W fun r w' => r = .bool true ∧ Upd W w' [] := by
  apply flotillalaw05_RecSames_sound
  unfold flotillalaw05_RecSames_x
  have ha0 := ha
  have hb0 := hb
  obtain ⟨at', ad, rfl, hat, had⟩ := ha0
  obtain ⟨bt', bd, rfl, hbt, hbd⟩ := hb0
  refine st_box (Upd.refl W []) (Owns.nil W) ?_
  intro g w1 hU1 hO1 hg
  refine st_box hU1 hO1 ?_
  intro g2 w2 hU2 hO2 hg2
  let H := [(g2, reO b bt' bd), (g, reO a at' ad)]
  have hO2 : Owns w2 H := hO2
  rw [step_run (run_re (hO2.at_ 1 rfl))]
  refine st_call (light_spec w2 _ a (shortR_sum hsa) (ha.mono hU2)) ?_
  rintro _ w3 ⟨rfl, hU3⟩
  have hO3 := hO2.ext hU3
  have hU3 := hU2.trans hU3
  simp only [PX, BX]
  refine ⟨fun _ => ?_, fun _ => fin_lives hU3⟩
  rw [step_run (run_re (hO3.at_ 0 rfl))]
  refine st_call (light_spec w3 _ b (shortR_sum hsb) (hb.mono hU3)) ?_
  rintro _ w4 ⟨rfl, hU4⟩
  have hO4 := hO3.ext hU4
  have hU4 := hU3.trans hU4
  simp only [PX, BX]
  refine ⟨fun _ => ?_, fun _ => fin_lives hU4⟩
  have hS := SU.drew hU4 hO4
  have hne : ∃ w', SU W H w' := ⟨_, hS⟩
  have la : ∀ w', SU W H w' → (sLoad 33 (.pointer (some ⟨g, 0, none⟩))).run Try.prog w' = .ok (.value (.agg (reV a at' ad).toArray)) w' := fun w' h => run_re (h.2.at_ 1 rfl)
  have lb : ∀ w', SU W H w' → (sLoad 33 (.pointer (some ⟨g2, 0, none⟩))).run Try.prog w' = .ok (.value (.agg (reV b bt' bd).toArray)) w' := fun w' h => run_re (h.2.at_ 0 rfl)
  refine st_draw (SU W H) hS ?_
  simp only [stepS_run hne la, stepS_run hne lb]
  refine st_call (Same_spec _ _ _ a b (ha.mono hS.1) (hb.mono hS.1)) ?_
  rintro _ w5 ⟨rfl, hU5⟩
  have hS : SU W H w5 := ⟨hS.1.trans hU5, hS.2.ext hU5⟩
  refine st_same hS ?_
  refine st_call (rSame_spec _ _ _ a b (ha.mono hS.1) (hb.mono hS.1)) ?_
  rintro _ w6 ⟨rfl, hU6⟩
  have hS : SU W H w6 := ⟨hS.1.trans hU6, hS.2.ext hU6⟩
  refine st_keepT (SU W H) hS ?_
  simp (disch := assumption) only [SX, BX, beq_self_eq_true, stepS_run hne la, stepS_run hne lb]
  refine st_call (Same_spec _ _ _ b a (hb.mono hS.1) (ha.mono hS.1)) ?_
  rintro _ w7 ⟨rfl, hU7⟩
  have hS : SU W H w7 := ⟨hS.1.trans hU7, hS.2.ext hU7⟩
  refine st_same hS ?_
  refine st_call (Same_spec _ _ _ a b (ha.mono hS.1) (hb.mono hS.1)) ?_
  rintro _ w8 ⟨rfl, hU8⟩
  have hS : SU W H w8 := ⟨hS.1.trans hU8, hS.2.ext hU8⟩
  refine st_keepT (SU W H) hS ?_
  have hcomm : decide (b = a) = decide (a = b) := by simp [eq_comm]
  rw [hcomm]
  simp (disch := assumption) only [SX, BX, beq_self_eq_true, stepS_run hne la, stepS_run hne lb]
  refine st_call (Same_spec _ _ _ a a (ha.mono hS.1) (ha.mono hS.1)) ?_
  rintro _ w9 ⟨rfl, hU9⟩
  have hS : SU W H w9 := ⟨hS.1.trans hU9, hS.2.ext hU9⟩
  refine st_keepT (SU W H) hS ?_
  simp only [BX, stepS_run hne la, stepS_run hne lb]
  refine ⟨fun _ => ?_, fun h => by simp at h⟩
  refine st_call (Same_spec _ _ _ b b (hb.mono hS.1) (hb.mono hS.1)) ?_
  rintro _ w10 ⟨rfl, hU10⟩
  have hS : SU W H w10 := ⟨hS.1.trans hU10, hS.2.ext hU10⟩
  refine st_keepT (SU W H) hS ?_
  simp only [BX]
  exact ⟨fun _ => fin_livesT hS.1, fun h => by simp at h⟩
end Go.Proofs.Ytconmaojfkmlnaa.Rec
