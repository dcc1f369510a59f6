/- Frames. -/
import Derived.Test.YtconmaojfkmlnaaRecG
namespace Go.Proofs.Ytconmaojfkmlnaa.Rec
open Go Go.Proofs.Ytconmaojfkmlnaa Go.Proofs.Ytconmaojfkmlnaa.Enc Xf Go.RowKit
set_option linter.unusedVariables false
set_option linter.unusedSimpArgs false
set_option maxRecDepth 100000

def sealB (l : List UInt8) : List UInt8 := l ++ Crc.le4 (Crc.more 0 l)
theorem sealB_len (l : List UInt8) : (sealB l).length = l.length + 4 := by simp [sealB, Crc.le4]
def frB (r : Re) : List UInt8 := sealB (leB (reB r).length 2 ++ reB r)
theorem frB_len (r : Re) : (frB r).length = (reB r).length + 6 := by unfold frB; rw [sealB_len, List.length_append, leB_len]; omega
theorem NewB.rd {w w' : World} {r : Value} {l : List UInt8} (h : NewB w w' r l) : Rd w' 1 r l.length (bytesV l) := by
  obtain ⟨hh, h1, h2, _⟩ := h
  exact h1.rd (F := []) (by rw [List.append_nil]; exact h2)
theorem NewB.upd {w w' : World} {r : Value} {l : List UInt8} (h : NewB w w' r l) : Upd w w' [] := by obtain ⟨_, _, _, h, _⟩ := h; exact h
theorem NewB.ofC {w w' : World} {r : Value} {l : List UInt8} (h : Crc.NewBytes w w' r l) : NewB w w' r l := h

theorem Frame_spec (w : World) (v : Value) (r : Re) (h : RdRe w v r) : CallsR Try.prog 15 #[v] w fun u w' => ∃ x, u = .tuple #[x, .int .i64 (okN (okP r) : Nat)] ∧ NewB w w' x (if okP r then frB r else []) := by
  obtain ⟨vt, vd, rfl, hT, hD⟩ := h
  apply rec_Frame_sound
  unfold rec_Frame_x
  refine st_box (Upd.refl w []) (Owns.nil w) ?_
  intro g w1 hU1 hO1 hg
  have hO1 : Owns w1 [(g, reO r vt vd)] := hO1
  rw [step_run (run_re (hO1.at_ 0 rfl))]
  refine st_call (Encode_spec _ _ r (RdRe.blk hO1 hU1 hT hD)) ?_
  rintro _ w2 ⟨x, rfl, hN⟩
  have hU2 := hU1.trans (NewB.upd hN)
  by_cases hok : okP r
  · have e0 : okN (okP r) = 0 := by unfold okN; rw [if_pos hok]
    rw [if_pos hok] at hN ⊢
    rw [e0]
    have hx := NewB.rd hN
    have hlen := reB_len hok
    obtain ⟨Ax, cx, rfl, -⟩ := hx
    have hx := NewB.rd hN
    simp only [PX, BX]
    refine ⟨fun h => absurd rfl h, fun _ => ?_⟩
    refine st_call (New_spec w2) ?_
    rintro _ w3 ⟨gw, rfl, hW⟩
    simp (disch := first | assumption | omega) only [PX, BX, wrapU16]
    rw [Nat.mod_eq_of_lt (by omega)]
    refine st_call (Two_spec (reB r).length (by simp only [List.length_nil]; omega) (by omega) hW) ?_
    intro _ w4 hW
    refine st_call (Done_spec (by simp only [List.length_append, List.length_nil, leB_len]; omega) hW) ?_
    intro y w5 hY
    have hx5 := hx.mono (hW.mid.trans (NewB.upd hY))
    have hU5 := hU2.trans (hW.mid.trans (NewB.upd hY))
    obtain ⟨hh, h1, h2, h3, h4⟩ := hY
    refine Crc.st_app (F := []) h1 (by rw [List.append_nil]; exact h2) h3 (fun p hp => .inr (h4 p hp)) hx5 (by simp only [List.length_append, List.length_nil, leB_len]; omega) ?_
    intro v6 w6 h6 hr6 hO6 hU6 hh6
    rw [List.nil_append, ← List.length_append] at hr6
    refine st_call (Crc.Seal_spec w6 v6 (leB (reB r).length 2 ++ reB r) (by rw [List.length_append, leB_len]; omega) (hr6.rd hO6)) ?_
    intro z w7 hZ
    refine ⟨z, rfl, NewB.base (NewB.ofC hZ) ((hU2.trans hW.mid).trans hU6)⟩
  · have e0 : okN (okP r) = 1 := by unfold okN; rw [if_neg hok]
    rw [e0, if_neg hok]
    simp only [PX, BX]
    exact ⟨fun _ => ⟨_, rfl, NewB.nil hU2⟩, fun h => absurd (by decide) h⟩
theorem rFrame_spec (w : World) (v : Value) (r : Re) (hok : okP r) (h : RdRe w v r) : CallsR Try.prog 22 #[v] w fun u w' => u = .string ⟨(frB r).toArray⟩ ∧ Upd w w' [] := by
  obtain ⟨vt, vd, rfl, hT, hD⟩ := h
  apply flotillaref05_Frame_sound
  unfold flotillaref05_Frame_x
  refine st_box (Upd.refl w []) (Owns.nil w) ?_
  intro g w1 hU1 hO1 hg
  have hO1 : Owns w1 [(g, reO r vt vd)] := hO1
  rw [step_run (run_re (hO1.at_ 0 rfl))]
  refine st_call (Bytes_spec _ _ r hok (RdRe.blk hO1 hU1 hT hD)) ?_
  rintro _ w2 ⟨rfl, hU2⟩
  have hlen := reB_len hok
  simp only [PX, size_mk, wrapU64]
  rw [Nat.mod_eq_of_lt (by omega)]
  refine st_call (refNum_spec _ (reB r).length 2 (by omega) (by omega)) ?_
  rintro _ w3 ⟨rfl, hU3⟩
  rw [px_cat (by rw [leB_len]; omega)]
  refine st_call (Crc.rSeal_spec _ _ (by rw [List.length_append, leB_len]; omega)) ?_
  rintro _ w4 ⟨rfl, hU4⟩
  exact ⟨rfl, ((hU1.trans hU2).trans hU3).trans hU4⟩
theorem Size_spec (w : World) (v : Value) (r : Re) (h : RdRe w v r) : CallsR Try.prog 21 #[v] w fun u w' => u = .int .i64 ((if okP r then (frB r).length else 0 : Nat) : Int) ∧ Upd w w' [] := by
  obtain ⟨vt, vd, rfl, hT, hD⟩ := h
  apply rec_Size_sound
  unfold rec_Size_x
  refine st_box (Upd.refl w []) (Owns.nil w) ?_
  intro g w1 hU1 hO1 hg
  have hO1 : Owns w1 [(g, reO r vt vd)] := hO1
  rw [step_run (run_re (hO1.at_ 0 rfl))]
  refine st_call (Encode_spec _ _ r (RdRe.blk hO1 hU1 hT hD)) ?_
  rintro _ w2 ⟨x, rfl, hN⟩
  have hU2 := hU1.trans (NewB.upd hN)
  by_cases hok : okP r
  · have e0 : okN (okP r) = 0 := by unfold okN; rw [if_pos hok]
    rw [if_pos hok] at hN ⊢
    rw [e0, frB_len]
    have hlen := reB_len hok
    obtain ⟨Ax, cx, rfl, -⟩ := NewB.rd hN
    simp (disch := omega) only [PX, BX, w64]
    exact ⟨fun h => absurd rfl h, fun _ => ⟨by simp, hU2⟩⟩
  · have e0 : okN (okP r) = 1 := by unfold okN; rw [if_neg hok]
    rw [e0, if_neg hok]
    simp only [PX, BX]
    exact ⟨fun _ => ⟨rfl, hU2⟩, fun h => absurd (by decide) h⟩
end Go.Proofs.Ytconmaojfkmlnaa.Rec
