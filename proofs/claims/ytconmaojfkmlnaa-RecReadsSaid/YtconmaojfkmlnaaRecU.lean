/- What is framed is unframed; the example. -/
import Derived.Test.YtconmaojfkmlnaaRecT
namespace Go.Proofs.Ytconmaojfkmlnaa.Rec
open Go Go.Proofs.Ytconmaojfkmlnaa Go.Proofs.Ytconmaojfkmlnaa.Enc Xf Go.RowKit
set_option linter.unusedVariables false
set_option linter.unusedSimpArgs false
set_option maxRecDepth 100000

theorem openL_seal (x : List UInt8) : Crc.openL (sealB x) = (x, 0) := by
  have hl : (sealB x).length - 4 = x.length := by rw [sealB_len]; omega
  unfold Crc.openL
  rw [if_neg (by rw [sealB_len]; omega), hl]
  have h1 : (sealB x).take x.length = x := List.take_left' rfl
  have h2 : (sealB x).drop x.length = Crc.le4 (Crc.more 0 x) := List.drop_left' rfl
  rw [h1, h2, if_pos rfl]
theorem frB_head {r : Re} (h : okP r) (rest : List UInt8) : (frB r ++ rest).take 2 = leB (reB r).length 2 := by
  unfold frB sealB
  rw [List.append_assoc, List.append_assoc]
  exact List.take_left' (leB_len _ _)
theorem unfR_back {r : Re} (h : okP r) (rest : List UInt8) : unfR (frB r ++ rest) = (r, (frB r).length, 0) := by
  have hl := reB_len h
  have hv : leVal ((frB r ++ rest).take 2) = (reB r).length := by rw [frB_head h]; rw [leVal_leB]; exact Nat.mod_eq_of_lt (by omega)
  have hn : (reB r).length + 6 = (frB r).length := (frB_len r).symm
  unfold unfR
  rw [hv, hn, if_neg (by rw [List.length_append, frB_len]; omega), if_neg (by rw [List.length_append]; omega)]
  have ht : (frB r ++ rest).take (frB r).length = frB r := List.take_left' rfl
  have ho : Crc.openL (frB r) = (leB (reB r).length 2 ++ reB r, 0) := openL_seal _
  rw [ht, ho]
  have hd : (leB (reB r).length 2 ++ reB r).drop 2 = reB r := List.drop_left' (leB_len _ _)
  rw [if_neg (by simp), hd, (decR_back h).2, if_neg (by simp)]
theorem unfR_cut {r : Re} (h : okP r) (k : Nat) (hk : k < (frB r).length) : unfR ((frB r).take k) = (re0, 0, 4) := by
  have hl := reB_len h
  have hf := frB_len r
  have hlen : ((frB r).take k).length = k := by rw [List.length_take]; omega
  unfold unfR
  by_cases h2 : k < 2
  · rw [if_pos (by omega)]
  rw [if_neg (by omega)]
  have hv : ((frB r).take k).take 2 = leB (reB r).length 2 := by
    have := frB_head h []
    rw [List.append_nil] at this
    rw [List.take_take, Nat.min_eq_left (by omega)]; exact this
  rw [hv, leVal_leB, Nat.mod_eq_of_lt (show (reB r).length < 256 ^ 2 by omega), if_pos (by omega)]

def exR : Re := { re0 with kind := 3, lsn := 33, txn := 7, prev := 17 }
theorem exR_ok : okP exR := by
  refine ⟨by decide, by decide, by decide, by decide, by decide, ?_, ?_, ?_, ?_, ?_⟩
  · rw [if_neg (by decide)]; exact ⟨rfl, rfl, rfl, rfl, rfl⟩
  · rw [if_neg (by decide)]; decide
  · intro _; exact ⟨rfl, rfl⟩
  · intro _; rfl
  · exact ⟨by decide, by decide, fun i hi => by exact absurd hi (by simp [exR, re0]), fun i hi => by exact absurd hi (by simp [exR, re0])⟩
theorem exR_B : reB exR = [3, 33, 0, 0, 0, 0, 0, 0, 0, 7, 0, 0, 0, 17, 0, 0, 0, 0, 0, 0, 0] := by decide

theorem st_cast {w : World} {l : List UInt8} {K : Value → World → Prop} (hk : ∀ v w', Upd w w' [] → Rd w' 1 v l.length (bytesV l) → K v w') : (std Try.prog).step (sConv 9 22 (.string ⟨l.toArray⟩)) w K := by
  refine st_bytes u9 u22 u5 (Upd.refl w []) (Owns.nil w) ?_
  intro g cap cs m w' hU hO hg _ hcap htake hsz
  rw [size_mk] at hcap htake hsz ⊢
  exact hk _ w' hU (rd_row (hO.at_ 0 rfl) (bytesV_len l) hcap htake)
theorem lives_spec (w : World) : CallsR Try.prog 9 #[] w fun r w' => r = .bool true ∧ Upd w w' [] := by
  apply flotillalaw05_lives_sound
  unfold flotillalaw05_lives_x
  rw [step_run (show (sBuild 33 [(0, .int .i64 3), (1, .int .u64 33), (2, .int .i64 7), (3, .int .u64 17)]).run Try.prog w = .ok (.value (.agg (reV exR nilS nilS).toArray)) w by kernel_rfl)]
  refine st_alloc ze_re (Upd.refl w []) (Owns.nil w) ?_
  intro g w1 hU1 hO1 hg
  have hO1 : Owns w1 [reBlk g re0] := hO1
  refine st_re hU1 hO1 0 rfl rfl rfl (.inr hg) ?_
  intro w2 hU2 hO2
  have hO2 : Owns w2 [reBlk g exR] := hO2
  rw [step_run (run_re (hO2.at_ 0 rfl))]
  have hre : ∀ w', RdRe w' (.agg (reV exR nilS nilS).toArray) exR := fun w' => ⟨nilS, nilS, rfl, ⟨none, 0, rfl, by decide, Rd.nil_ _ _⟩, ⟨none, 0, rfl, by decide, Rd.nil_ _ _⟩⟩
  refine st_call (Encode_spec w2 _ exR (hre w2)) ?_
  rintro _ w3 ⟨x, rfl, hN⟩
  rw [if_pos exR_ok] at hN
  have hO3 := hO2.ext (NewB.upd hN)
  have hU3 := hU2.trans (NewB.upd hN)
  simp only [PX]
  rw [step_run (run_re (hO3.at_ 0 rfl))]
  refine st_call (rFrame_spec w3 _ exR exR_ok (hre w3)) ?_
  rintro _ w4 ⟨rfl, hU4⟩
  refine st_cast ?_
  intro v w5 hU5 hv
  have hlen := frB_len exR
  have hl := reB_len exR_ok
  refine st_call (Unframe_spec w5 v (frB exR) (by omega) hv) ?_
  rintro _ w6 ⟨y, rfl, hNr⟩
  have hun := unfR_back exR_ok []
  rw [List.append_nil] at hun
  rw [hun] at hNr ⊢
  obtain ⟨yt, yd, rfl, ht1, hd1⟩ := NewRe.cells hNr
  simp only [PX]
  refine st_alloc ze_re (Upd.refl w6 []) (Owns.nil w6) ?_
  intro g9 w7 hU7 hO7 hg9
  have hO7 : Owns w7 [reBlk g9 re0] := hO7
  refine st_re hU7 hO7 0 rfl ht1 hd1 (.inr hg9) ?_
  intro w8 hU8 hO8
  have hO8 : Owns w8 [(g9, reO exR yt yd)] := hO8
  have hU6 := (NewRe.upd hNr)
  have hU48 := ((hU4.trans hU5).trans hU6).trans hU8
  have hxr := (NewB.rd hN).mono hU48
  obtain ⟨Ax, cx, rfl, hcx, _, hcell⟩ := hxr
  have hB : (reB exR).length = 21 := by rw [exR_B]; rfl
  have hF : (frB exR).length = 27 := by rw [hlen, hB]
  have e0 : okN (okP exR) = 0 := by unfold okN; rw [if_pos exR_ok]
  rw [e0, hF, hB]
  obtain ⟨a, rfl, hx0⟩ := hcell 0 (.int .u8 3) (by rw [exR_B]; rfl)
  have hx0 : w8.cell? a = some (.int .u8 3) := hx0
  have c2 : w8.cell? ⟨g9, 2, none⟩ = some (.int .i64 7) := (At.of (hO8.at_ 0 rfl)).c2
  have hix : (sIndexAddr 22 (.slice (some a) 21 cx) (.int .i64 0)).run Try.prog w8 = .ok (.value (.pointer (some (a.add 0)))) w8 := by
    have := run_idxS (P := Try.prog) (w := w8) (a := a) (n := 21) (c := cx) (q := .i64) (i := 0) u22 sz5 (by omega) (by omega)
    exact this
  simp only [PX, BX]
  refine ⟨fun _ => ⟨fun _ => ?_, fun h => absurd rfl h⟩, fun h => absurd rfl h⟩
  rw [step_run hix, show a.add 0 = a from rfl]
  simp (disch := first | assumption | omega) only [PX, BX, LX, add_mk, Nat.reduceAdd]
  refine ⟨fun _ => ⟨fun _ => ⟨fun _ => ?_, fun h => by simp at h⟩, fun h => by simp at h⟩, fun h => by simp at h⟩
  exact ⟨rfl, hU3.trans hU48⟩
end Go.Proofs.Ytconmaojfkmlnaa.Rec
