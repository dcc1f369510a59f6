/- Logs: the reference's Bytes. -/
import Derived.Test.YtplpjikcgheiiaaWalZ
namespace Go.Proofs.Ytplpjikcgheiiaa.Wal
open Go Go.Proofs.Ytplpjikcgheiiaa Go.Proofs.Ytplpjikcgheiiaa.Rec Xf Go.RowKit Go.ChangeShapes Go.WideShapes Go.Deep
set_option linter.unusedVariables false
set_option linter.unusedSimpArgs false
set_option maxRecDepth 100000

def frames (L : List Re) : List UInt8 := L.flatMap frB
theorem frames_flat {L : List En} (h : ∀ x ∈ L, x.b = frB x.r) : frames (L.map (·.r)) = flatB L := by
  induction L with
  | nil => rfl
  | cons x L ih =>
    have h1 := ih fun y hy => h y (List.mem_cons_of_mem _ hy)
    show frB x.r ++ frames (L.map (·.r)) = x.b ++ flatB L
    rw [h1, h x (List.mem_cons_self ..)]
theorem rBytes_spec (W : World) (v : Value) (L : List Re) (hok : ∀ r ∈ L, okP r) (hm : L.length ≤ 100000) (hb : (frames L).length ≤ 1000000) (h : RdRs W v L) : CallsR Try.prog 34 #[v] W fun u w' => u = .string ⟨(frames L).toArray⟩ ∧ Upd W w' [] := by
  obtain ⟨A, c, rfl, hmx, hE⟩ := h
  apply flotillaref09_Bytes_sound
  unfold flotillaref09_Bytes_x flotillaref09_Bytes_k1
  refine st_loop (fun vs w' => ∃ i : Nat, i ≤ L.length ∧ vs.getD 0 undef = .string ⟨(frames (L.take i)).toArray⟩ ∧ vs.getD 1 undef = .int .i64 i ∧ Upd W w' []) (fun vs _ => L.length - (intOf (vs.getD 1 undef)).toNat) ⟨0, by omega, rfl, rfl, Upd.refl W []⟩ ?_
  rintro dv vs w1 - ⟨i, hi, e0, e1, hU1⟩
  simp (disch := omega) only [e0, e1, PX, BX]
  refine ⟨fun hlt => ?_, fun hge => ?_⟩
  · have hi' : i < L.length := by omega
    obtain ⟨a, vt, vd, rfl, hc, o1, o2, rt, rd⟩ := hE i hi'
    simp (disch := omega) only [PX]
    have hc1 : ∀ j u, (reV L[i] vt vd)[j]? = some u → w1.cell? ((a.add (i * 12)).add j) = some u := fun j u hu => by
      have := hc j u hu
      rw [hU1.cell (World.block_lt_of_cell? W _ this) (by simp)]; exact this
    rw [step_run (run_reN hc1)]
    refine st_call (rFrame_spec w1 _ L[i] (hok _ (List.getElem_mem hi')) ⟨vt, vd, rfl, rt.mono hU1, rd.mono hU1⟩) ?_
    rintro _ w2 ⟨rfl, hU2⟩
    have hts : frames (L.take (i + 1)) = frames (L.take i) ++ frB L[i] := by rw [List.take_succ_eq_append_getElem hi']; unfold frames; rw [List.flatMap_append]; simp only [List.flatMap_cons, List.flatMap_nil, List.append_nil]
    have hle : (frames (L.take (i + 1))).length ≤ (frames L).length := by
      have : frames L = frames (L.take (i + 1)) ++ frames (L.drop (i + 1)) := by unfold frames; rw [← List.flatMap_append, List.take_append_drop]
      rw [this, List.length_append]; omega
    rw [hts, List.length_append] at hle
    have hsz : (⟨(frames (L.take i)).toArray⟩ : ByteArray).size + (⟨(frB L[i]).toArray⟩ : ByteArray).size ≤ 9223372036854775807 := by rw [size_mk, size_mk]; omega
    simp (disch := first | exact hsz | omega) only [PX, w64, mk_append]
    refine ⟨⟨i + 1, by omega, ?_, rfl, hU1.trans hU2⟩, ?_⟩
    · rw [hts]; rfl
    · simp only [List.getD_cons_succ, List.getD_cons_zero, intOf]; omega
  · obtain rfl : i = L.length := by omega
    rw [List.take_length]
    exact ⟨rfl, hU1⟩
end Go.Proofs.Ytplpjikcgheiiaa.Wal
