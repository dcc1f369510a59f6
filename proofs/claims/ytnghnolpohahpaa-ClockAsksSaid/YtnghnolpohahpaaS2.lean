/- What the functions of the layer clock compute: rings of their own, places of pages. -/
import Derived.Test.YtnghnolpohahpaaS
namespace Go.Proofs.Ytnghnolpohahpaa
open Go Xf Go.RowKit
set_option linter.unusedVariables false
set_option linter.unusedSimpArgs false
set_option maxRecDepth 100000

/-- a ring in a row of its own, whose frames stand in block g -/
def NewRing (w w' : World) (v : Value) (g : Nat) (fs : List Fr) (hand : Int) : Prop :=
  v = .agg #[.slice (some ⟨g, 0, none⟩) fs.length fs.length, .int .i64 hand] ∧ fs.length ≤ maxLen ∧ Owns w' [(g, .cells (framesV fs).toArray 31 (0, 0))] ∧ Upd w w' [] ∧ w.heap.size ≤ g
theorem rd_own {w : World} {g n : Nat} {fs : List Fr} {fr : Nat × Nat} (hn : fs.length = n) (h : w.heap[g]? = some (.cells (framesV fs).toArray 31 fr)) : Rd w 3 (.slice (some ⟨g, 0, none⟩) n n) n (framesV fs) := by
  refine ⟨_, _, rfl, Nat.le_refl _, by rw [framesV_len, hn], fun j u hu => ⟨_, rfl, ?_⟩⟩
  rw [add_mk, Nat.zero_add, cell_at h]
  simpa using hu
theorem NewRing.at_ {w w' : World} {v : Value} {g : Nat} {fs : List Fr} {hand : Int} (h : NewRing w w' v g fs hand) : RingAt w' v fs hand := by
  obtain ⟨h1, h2, h3, h4, h5⟩ := h
  exact ⟨_, _, h1, h2, rd_own rfl (h3.at_ 0 rfl)⟩

theorem twin_spec (w : World) (v : Value) (fs : List Fr) (hand : Int) (hn : fs.length ≤ 1048576) (hr : RingAt w v fs hand) :
    CallsR Try.prog 29 #[v] w fun r w' => ∃ g, NewRing w w' r g fs hand := by
  apply clock_twin_sound
  unfold clock_twin_x
  obtain ⟨A, c, rfl, hm, hrd⟩ := hr
  refine st_box (Upd.refl w []) (Owns.nil w) ?_
  intro g w1 hU1 hO1 hg
  refine st_alloc ze24 hU1 hO1 ?_
  intro g2 w2 hU2 hO2 hg2
  have c0 : w2.cell? ⟨g, 0, none⟩ = some (.slice A fs.length c) := cell_at (hO2.at_ 1 rfl)
  simp (disch := first | assumption | omega) only [PX, BX, LX, add_mk, Nat.reduceAdd]
  clear c0
  obtain ⟨i, hi, hz, hs, hb⟩ := inf31
  refine st_make u22 hi hz hs hb (by omega) (by omega) hU2 hO2 ?_
  intro g3 w3 hU3 hO3 hg3
  have c0 : w3.cell? ⟨g, 0, none⟩ = some (.slice A fs.length c) := cell_at (hO3.at_ 2 rfl)
  simp (disch := first | assumption | omega) only [PX, BX, LX, add_mk, Nat.reduceAdd]
  clear c0
  refine st_copy u22 sz31 hU3 hO3 0 rfl (hrd.mono hU3) (by rw [framesV_len, size_madeCells]; exact Nat.le_refl _) (framesV_one fs) (.inr hg3) ?_
  intro w4 hU4 hO4
  have hO4 : Owns w4 [(g3, .cells (framesV fs).toArray 31 (0, 0)), (g2, .cells #[.slice none 0 0, .int .i64 0] 24 (0, 0)), (g, .cells #[.slice A fs.length c, .int .i64 hand] 24 (0, 0))] := by
    have e : (framesV fs ++ (madeCells (Value.agg #[.int .i64 0, .bool false, .int .i64 0]).cells (fs.length * 3)).toList.drop (framesV fs).length) = framesV fs := by
      rw [List.drop_of_length_le, List.append_nil]
      rw [framesV_len, Array.length_toList, size_madeCells]; exact Nat.le_refl _
    rw [e] at hO4
    exact hO4
  have c1 : w4.cell? ⟨g, 1, none⟩ = some (.int .i64 hand) := cell_at (hO4.at_ 2 rfl)
  simp (disch := first | assumption | omega) only [PX, BX, LX, add_mk, Nat.reduceAdd]
  rw [step_run (show (sBuild 24 [(0, .slice (some ⟨g3, 0, none⟩) fs.length fs.length), (1, .int .i64 hand)]).run Try.prog w4 = .ok (.value (.agg #[.slice (some ⟨g3, 0, none⟩) fs.length fs.length, .int .i64 hand])) w4 by kernel_rfl)]
  refine st_storeN (vs := [.slice (some ⟨g3, 0, none⟩) fs.length fs.length, .int .i64 hand]) (by rw [sz24]; rfl) hU4 hO4 1 rfl (by simp) (by simp [Value.oneCell']) (.inr hg2) ?_
  intro w5 hU5 hO5
  refine st_loadR (u := .agg #[.slice (some ⟨g3, 0, none⟩) fs.length fs.length, .int .i64 hand]) ?_ ?_
  · exact run_loadVarN ag24 (cs := [.slice (some ⟨g3, 0, none⟩) fs.length fs.length, .int .i64 hand]) (by rw [sz24]; rfl) (cells_read (hO5.at_ 1 rfl))
  · exact ⟨g3, rfl, hm, hO5.sub (by simp), hU5, hg3⟩

end Go.Proofs.Ytnghnolpohahpaa
