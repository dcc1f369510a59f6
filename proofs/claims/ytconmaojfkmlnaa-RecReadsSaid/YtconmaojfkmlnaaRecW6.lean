/- RecReads. -/
import Derived.Test.YtconmaojfkmlnaaRecAA
import Derived.Test.YtconmaojfkmlnaaRecW3
namespace Go.Proofs.Ytconmaojfkmlnaa.Rec
open Go Go.Proofs.Ytconmaojfkmlnaa Go.Proofs.Ytconmaojfkmlnaa.Enc Xf Go.RowKit
set_option linter.unusedVariables false
set_option linter.unusedSimpArgs false
set_option maxRecDepth 100000

/-- a record that was told, into a variable -/
theorem keep_re {W W1 w : World} {v : Value} {r : Re} {h : List (Nat × Obj)} {K : Value → World → Prop} (hN : NewRe W1 w v r) (hU : Upd W w []) (hO : Owns w h)
    (hk : ∀ g w' vt vd, W.heap.size ≤ g → Upd w w' [] → Owns w' ((g, reO r vt vd) :: h) → RdRe w (.agg (reV r vt vd).toArray) r → K (.pointer (some ⟨g, 0, none⟩)) w') :
    (std Try.prog).step (sAlloc 33) w fun p w => (std Try.prog).step (sStore 33 p v) w fun _ w => K p w := by
  have hre := NewRe.rd hN
  obtain ⟨vt, vd, rfl, h1, h2⟩ := NewRe.cells hN
  refine st_alloc ze_re (Upd.refl w []) hO ?_
  intro g w1 hU1 hO1 hg
  refine st_re (r0 := re0) (vt0 := nilS) (vd0 := nilS) hU1 hO1 0 rfl h1 h2 (.inr hg) ?_
  intro w2 hU2 hO2
  exact hk g w2 vt vd (Nat.le_trans hU.size hg) hU2 hO2 hre

theorem RecReads_spec (W : World) (v : Value) (l : List UInt8) (hl : l.length ≤ 140737488351232) (hr : Rd W 1 v l.length (bytesV l)) : CallsR Try.prog 3 #[v] W fun r w' => r = .bool true ∧ Upd W w' [] := by
  apply flotillalaw05_RecReads_sound
  unfold flotillalaw05_RecReads_x flotillalaw05_RecReads_k1
  obtain ⟨A, c, rfl, hc⟩ := hr
  have hr : Rd W 1 (.slice A l.length c) l.length (bytesV l) := ⟨A, c, rfl, hc⟩
  simp only [PX, BX]
  refine ⟨fun _ => fin_lives (Upd.refl W []), fun hs => ?_⟩
  rw [st_toStr hr]
  refine st_cast ?_
  intro b1 w1 hU1 hb1
  refine st_call (Decode_spec w1 b1 l (by omega) hb1) ?_
  rintro _ w2 ⟨x, rfl, hx⟩
  have hU2 := hU1.trans (NewRe.upd hx)
  simp only [PX]
  refine keep_re hx hU2 (Owns.nil w2) ?_
  intro gx w3 xt xd hgx hU3 hO3 hxr
  have hU3' := hU2.trans hU3
  refine st_call (rDecode_spec w3 l (by omega)) ?_
  rintro _ w4 ⟨y, rfl, hy⟩
  have hU4 := hU3'.trans (NewRe.upd hy)
  have hO4 := hO3.ext (NewRe.upd hy)
  simp only [PX]
  refine keep_re hy hU4 hO4 ?_
  intro gy w5 yt yd hgy hU5 hO5 hyr
  have hU5' := hU4.trans hU5
  refine st_cast ?_
  intro b6 w6 hU6 hb6
  refine st_call (Unframe_spec w6 b6 l (by omega) hb6) ?_
  rintro _ w7 ⟨u, rfl, hu⟩
  have hU7 := (hU5'.trans hU6).trans (NewRe.upd hu)
  have hO7 := (hO5.ext hU6).ext (NewRe.upd hu)
  simp only [PX]
  refine keep_re hu hU7 hO7 ?_
  intro gu w8 ut ud hgu hU8 hO8 hur
  have hU8' := hU7.trans hU8
  refine st_call (rUnframe_spec w8 l (by omega)) ?_
  rintro _ w9 ⟨z, rfl, hz⟩
  have hU9 := hU8'.trans (NewRe.upd hz)
  have hO9 := hO8.ext (NewRe.upd hz)
  simp only [PX]
  refine keep_re hz hU9 hO9 ?_
  intro gz w10 zt zd hgz hU10 hO10 hzr
  have hU10' := hU9.trans hU10
  have hO10 : Owns w10 [(gz, reO (unfR l).1 zt zd), (gu, reO (unfR l).1 ut ud), (gy, reO (decR l).1 yt yd), (gx, reO (decR l).1 xt xd)] := hO10
  have x10 := hxr.mono (((((((hU3.trans (NewRe.upd hy)).trans hU5).trans hU6).trans (NewRe.upd hu)).trans hU8).trans (NewRe.upd hz)).trans hU10)
  have y10 := hyr.mono (((((hU5.trans hU6).trans (NewRe.upd hu)).trans hU8).trans (NewRe.upd hz)).trans hU10)
  have u10 := hur.mono ((hU8.trans (NewRe.upd hz)).trans hU10)
  have z10 := hzr.mono hU10
  simp only [PX, BX]
  refine ⟨fun _ => ?_, fun h => by simp at h⟩
  rw [step_run (run_re (hO10.at_ 3 rfl)), step_run (run_re (hO10.at_ 2 rfl))]
  refine st_call (rSame_spec w10 _ _ _ _ x10 y10) ?_
  rintro _ w11 ⟨rfl, hU11⟩
  have hO11 := hO10.ext hU11
  have hU11' := hU10'.trans hU11
  simp only [PX, BX]
  refine ⟨fun _ => ⟨fun _ => ⟨fun _ => ?_, fun h => by simp at h⟩, fun h => by simp at h⟩, fun h => by simp at h⟩
  rw [step_run (run_re (hO11.at_ 1 rfl)), step_run (run_re (hO11.at_ 0 rfl))]
  refine st_call (rSame_spec w11 _ _ _ _ (u10.mono hU11) (z10.mono hU11)) ?_
  rintro _ w12 ⟨rfl, hU12⟩
  simp only [BX]
  exact ⟨fun _ => fin_lives (hU11'.trans hU12), fun h => by simp at h⟩
end Go.Proofs.Ytconmaojfkmlnaa.Rec
