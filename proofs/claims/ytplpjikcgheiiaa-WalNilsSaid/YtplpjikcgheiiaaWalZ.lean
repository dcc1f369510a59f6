/- Logs: the steps of the laws; how light a record is. -/
import Derived.Test.YtplpjikcgheiiaaWalY
namespace Go.Proofs.Ytplpjikcgheiiaa.Wal
open Go Go.Proofs.Ytplpjikcgheiiaa Go.Proofs.Ytplpjikcgheiiaa.Rec Xf Go.RowKit Go.ChangeShapes Go.WideShapes Go.Deep
set_option linter.unusedVariables false
set_option linter.unusedSimpArgs false
set_option maxRecDepth 100000

theorem shortR_sum {r : Re} (h : shortR r) : r.key.length + r.old.length + r.new.length < 9223372036854775808 := by
  have : reachBytes < 2 ^ 47 := reachBytes_lt
  unfold shortR at h; omega
def lightR (r : Re) : Prop := r.ts.length ≤ 100 ∧ r.ds.length ≤ 100 ∧ r.key.length + r.old.length + r.new.length ≤ 1000
instance (r : Re) : Decidable (lightR r) := by unfold lightR; infer_instance
theorem light_spec {w : World} {v : Value} {r : Re} (hs : shortR r) (h : RdRe w v r) : CallsR Try.prog 11 #[v] w fun u w' => u = .bool (decide (lightR r)) ∧ Upd w w' [] := by
  obtain ⟨vt, vd, rfl, ⟨A1, n1, rfl, hm1, ht1⟩, ⟨A2, n2, rfl, hm2, hd1⟩⟩ := h
  have hsum := shortR_sum hs
  apply flotillalaw09_light_sound
  unfold flotillalaw09_light_x flotillalaw09_light_k1
  refine st_box (Upd.refl w []) (Owns.nil w) ?_
  intro g w1 hU1 hO1 hg
  have hO1 : Owns w1 [(g, reO r (.slice A1 r.ts.length n1) (.slice A2 r.ds.length n2))] := hO1
  have c7 : w1.cell? ⟨g, 7, none⟩ = some (.string ⟨r.key.toArray⟩) := (cell_at (hO1.at_ 0 rfl)).trans rfl
  have c8 : w1.cell? ⟨g, 8, none⟩ = some (.string ⟨r.old.toArray⟩) := (cell_at (hO1.at_ 0 rfl)).trans rfl
  have c9 : w1.cell? ⟨g, 9, none⟩ = some (.string ⟨r.new.toArray⟩) := (cell_at (hO1.at_ 0 rfl)).trans rfl
  have c10 : w1.cell? ⟨g, 10, none⟩ = some (.slice A1 r.ts.length n1) := (cell_at (hO1.at_ 0 rfl)).trans rfl
  have c11 : w1.cell? ⟨g, 11, none⟩ = some (.slice A2 r.ds.length n2) := (cell_at (hO1.at_ 0 rfl)).trans rfl
  simp (disch := first | assumption | omega) only [PX, BX, LX, add_mk, Nat.reduceAdd, size_mk]
  refine ⟨fun h1 => ⟨fun h2 => ⟨?_, hU1⟩, fun h2 => ⟨?_, hU1⟩⟩, fun h1 => ⟨?_, hU1⟩⟩
  · rw [w64 (a := (r.key.length : Int) + r.old.length) (by omega) (by omega), w64 (by omega) (by omega)]
    congr 1; rw [decide_eq_decide]; unfold lightR; omega
  · congr 1; rw [eq_comm, decide_eq_false_iff_not]; unfold lightR; omega
  · congr 1; rw [eq_comm, decide_eq_false_iff_not]; unfold lightR; omega

/-- a step in memory -/
structure StepAt (w : World) (b : Addr) (o : WOp) (vt vd : Value) : Prop where
  kind : w.cell? b = some (.int .i64 o.kind)
  n : w.cell? (b.add 1) = some (.int .i64 o.n)
  re : ∀ j u, (reV o.r vt vd)[j]? = some u → w.cell? ((b.add 3).add j) = some u
theorem StepAt.of {w : World} {b : Addr} {o : WOp} {vt vd : Value} (h : ∀ j u, (woV o vt vd)[j]? = some u → w.cell? (b.add j) = some u) : StepAt w b o vt vd :=
  ⟨by have := h 0 _ rfl; simpa [Addr.add] using this, h 1 _ rfl, fun j u hu => by rw [add_add', Nat.add_comm 3 j]; exact h (j + 3) u (by unfold woV; simpa using hu)⟩
theorem StepAt.mono {w w' : World} {b : Addr} {o : WOp} {vt vd : Value} (h : StepAt w b o vt vd) (hU : Upd w w' []) : StepAt w' b o vt vd := by
  have k : ∀ {p : Addr} {u : Value}, w.cell? p = some u → w'.cell? p = some u := fun hp => by
    rw [hU.cell (World.block_lt_of_cell? w _ hp) (by simp)]; exact hp
  exact ⟨k h.kind, k h.n, fun j u hu => k (h.re j u hu)⟩
end Go.Proofs.Ytplpjikcgheiiaa.Wal
