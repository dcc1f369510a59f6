/- Pieces, and rows together. -/
import Derived.Test.YtpbejopmgnglnaaS3
import Derived.Test.YtpbejopmgnglnaaO
namespace Go.Proofs.Ytpbejopmgnglnaa
open Go Xf Go.RowKit
set_option linter.unusedVariables false
set_option linter.unusedSimpArgs false
set_option maxRecDepth 100000

theorem CrcPieces_spec (w : World) (v : Value) (ls : List (List UInt8)) (hr : RdRows w v ls) :
    CallsR Try.prog 4 #[v] w fun r w' => r = .bool true ∧ Upd w w' [] := by
  apply flotillalaw02_CrcPieces_sound
  unfold flotillalaw02_CrcPieces_x
  obtain ⟨a, c, rfl, hm, hcell⟩ := hr
  unfold maxLen at hm
  refine st_newRow empty_row (Upd.refl w []) (Owns.nil w) ?_
  intro g w1 hU1 hO1 hg
  refine st_call (Sum_spec w1 _ [] (by simp) (Rd.nil_ _ _)) ?_
  rintro _ w2 ⟨rfl, hU2⟩
  refine st_loop (fun vs w' => ∃ (i : Nat) (h : List (Nat × Obj)), i ≤ 40 ∧ i ≤ ls.length ∧ vs.getD 2 undef = .int .u32 (more 0 (ls.take i).flatten : Nat) ∧ vs.getD 3 undef = .int .i64 i
      ∧ RowH 5 1 (vs.getD 1 undef) (ls.take i).flatten.length (bytesV (ls.take i).flatten) h ∧ Owns w' h ∧ Upd w w' [] ∧ (∀ p ∈ h, w.heap.size ≤ p.1) ∧ (ls.take i).flatten.length ≤ i * 1000)
    (fun vs _ => 40 - (intOf (vs.getD 3 undef)).toNat) ⟨0, [_], by omega, by omega, rfl, rfl, row0 g, hO1.ext hU2, hU1.trans hU2, fun p hp => by simp at hp; subst hp; exact hg, by simp⟩ ?_
  rintro dv vs w3 - ⟨i, h, hi, hil, e2, e3, hrow, hO, hU, hh, hlen⟩
  have fin : flotillalaw02_CrcPieces_k1 (std Try.prog) (vs.getD 1 undef) (vs.getD 2 undef) w3 fun r w' => r = .bool true ∧ Upd w w' [] := by
    unfold flotillalaw02_CrcPieces_k1
    refine st_call (Sum_spec w3 _ (ls.take i).flatten (by omega) (hrow.rd (F := []) (by simpa using hO))) ?_
    rintro _ w4 ⟨rfl, hU4⟩
    simp (disch := omega) only [e2, PX, BX]
    refine ⟨fun _ => ?_, fun hd => absurd trivial hd⟩
    refine st_call (lives_spec w4) ?_
    rintro _ w5 ⟨rfl, hU5⟩
    exact ⟨rfl, (hU.trans hU4).trans hU5⟩
  simp (disch := omega) only [e2, e3, PX, BX]
  refine ⟨fun hlt => ⟨fun h40 => ?_, fun _ => ?_⟩, fun _ => ?_⟩
  · have hlt' : i < ls.length := by omega
    obtain ⟨q, A, cc, rfl, hc1, hm1, hrd⟩ := hcell i ls[i] (List.getElem?_eq_getElem hlt')
    have hc3 : w3.cell? (q.add ((i : Int).toNat * 1)) = some (.slice A ls[i].length cc) := by
      rw [show (i : Int).toNat * 1 = i by omega, hU.cell (World.block_lt_of_cell? w _ hc1) (by simp)]; exact hc1
    unfold maxLen at hm1
    rw [step_run (run_idxS u30 sz22 (by omega) hlt)]
    refine st_load ag22 hc3 ?_
    simp (disch := omega) only [PX, BX]
    refine ⟨fun hd => ?_, fun hd => ?_⟩
    · exact st_call (lives_spec w3) fun v w' ⟨hv, hU'⟩ => ⟨hv, hU.trans hU'⟩
    · rw [step_run (run_idxS u30 sz22 (by omega) hlt)]
      refine st_load ag22 hc3 ?_
      have hsn : (ls.take (i + 1)).flatten = (ls.take i).flatten ++ ls[i] := by
        rw [List.take_succ_eq_append_getElem hlt', List.flatten_append, List.flatten_cons, List.flatten_nil, List.append_nil]
      refine st_app (F := []) hrow (by simpa using hO) hU (fun p hp => .inr (hh p hp)) (hrd.mono hU) (by omega) ?_
      intro v4 w4 h4 hr4 hO4 hU4 hh4
      rw [step_run (run_idxS u30 sz22 (by omega) hlt)]
      have hc4 : w4.cell? (q.add ((i : Int).toNat * 1)) = some (.slice A ls[i].length cc) := by
        rw [show (i : Int).toNat * 1 = i by omega, hU4.cell (World.block_lt_of_cell? w _ hc1) (by simp)]; exact hc1
      refine st_load ag22 hc4 ?_
      refine st_call (More_spec w4 _ (more_lt 0 _) _ ls[i] (by omega) (hrd.mono hU4)) ?_
      rintro _ w5 ⟨rfl, hU5⟩
      simp (disch := omega) only [PX, w64]
      refine ⟨⟨i + 1, h4, by omega, by omega, ?_, rfl, ?_, by simpa using hO4.ext hU5, hU4.trans hU5, fun p hp => (hh4 p hp).resolve_left (by simp), ?_⟩, ?_⟩
      · rw [hsn, more_append]; rfl
      · rw [hsn, List.length_append]; exact hr4
      · rw [hsn, List.length_append]; omega
      · simp only [List.getD_cons_succ, List.getD_cons_zero, intOf]; omega
  · rw [← e2]; exact fin
  · rw [← e2]; exact fin

end Go.Proofs.Ytpbejopmgnglnaa
