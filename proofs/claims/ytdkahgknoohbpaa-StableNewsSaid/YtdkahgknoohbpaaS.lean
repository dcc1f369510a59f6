/- What the functions of devices compute: New, Size, Read, Start, Flying. -/
import Derived.Test.YtdkahgknoohbpaaM
import Derived.Laws.OwnMore
namespace Go.Proofs.Ytdkahgknoohbpaa
open Go Xf Go.RowKit
set_option linter.unusedVariables false
set_option linter.unusedSimpArgs false
set_option maxRecDepth 100000

variable {w W : World} {ks : List Nat} {F : List (Nat × Obj)}

theorem known_spec (w : World) (g : Addr) (hand : Int) : CallsR Try.prog 22 #[.pointer (some g), .int .i64 hand] w fun r w' => r = .bool (decide (hands hand)) ∧ w' = w := by
  apply stable_Device_known_sound
  unfold stable_Device_known_x
  simp only [PX, BX, stable_Device_known_k1]
  refine ⟨fun h0 => ⟨?_, trivial⟩, fun h0 => ⟨?_, trivial⟩⟩
  · congr 1; rw [decide_eq_decide]; unfold hands; omega
  · congr 1; rw [eq_comm, decide_eq_false_iff_not]; unfold hands; omega
theorem known_nil (w : World) (hand : Int) : CallsR Try.prog 22 #[.pointer none, .int .i64 hand] w fun r w' => r = .bool false ∧ w' = w := by
  apply stable_Device_known_sound
  unfold stable_Device_known_x
  simp only [PX, BX, stable_Device_known_k1]
  trivial

theorem Size_spec {d : Dv} {v : Value} {h G : List (Nat × Obj)} (hd : DevH d v h) (hG : ∀ p ∈ h, p ∈ G) (hO : Owns w G) :
    CallsR Try.prog 21 #[v] w fun r w' => r = .int .i64 d.B.length ∧ w' = w := by
  apply stable_Device_Size_sound
  unfold stable_Device_Size_x
  obtain ⟨g, A, c, rfl, c0, hc, hrd, hup⟩ := hd.cells hG hO
  simp (disch := first | assumption | omega) only [PX, BX, LX]
  trivial
theorem Size_nil (w : World) : CallsR Try.prog 21 #[.pointer none] w fun r w' => r = .int .i64 0 ∧ w' = w := by
  apply stable_Device_Size_sound
  unfold stable_Device_Size_x
  simp (disch := first | assumption | omega) only [PX, BX, LX]
  trivial

def sizeOk (n : Int) : Prop := 0 ≤ n ∧ n ≤ 65536 ∧ n % 64 = 0
instance (n : Int) : Decidable (sizeOk n) := by unfold sizeOk; infer_instance

theorem build_dev (A : Option Addr) (n c : Nat) (w : World) : (sBuild 60 [(0, .slice A n c)]).run Try.prog w = .ok (.value (.agg (.slice A n c :: List.replicate 8 (.pointer none)).toArray)) w := by kernel_rfl

theorem tmod64 {n : Int} (h : 0 ≤ n) : n.tmod 64 = n % 64 := Int.tmod_eq_emod_of_nonneg h

theorem New_spec (hU : Upd W w ks) (hO : Owns w F) (n : Int) : CallsR Try.prog 8 #[.int .i64 n] w fun r w' => Upd W w' ks ∧ ((¬ sizeOk n ∧ r = .tuple #[.pointer none, .int .i64 1] ∧ Owns w' F) ∨
    (sizeOk n ∧ ∃ v h, r = .tuple #[v, .int .i64 0] ∧ DevH (newD n.toNat) v h ∧ Owns w' (h ++ F) ∧ ∀ p ∈ h, W.heap.size ≤ p.1)) := by
  apply stable_New_sound
  unfold stable_New_x
  simp (disch := first | assumption | omega) only [PX, BX, stable_New_k1]
  refine ⟨fun h => ⟨hU, .inl ⟨fun ho => (by unfold sizeOk at ho; omega), trivial, hO⟩⟩, fun h0 => ⟨fun h => ⟨hU, .inl ⟨fun ho => (by unfold sizeOk at ho; omega), trivial, hO⟩⟩, fun h1 => ⟨fun h => ⟨hU, .inl ⟨fun ho => h (by rw [tmod64 (by omega)]; exact ho.2.2), trivial, hO⟩⟩, fun h2 => ?_⟩⟩⟩
  have hok : sizeOk n := ⟨by omega, by omega, by rw [← tmod64 (by omega)]; exact Decidable.not_not.1 h2⟩
  obtain ⟨k, rfl⟩ : ∃ k : Nat, n = k := ⟨n.toNat, by omega⟩
  obtain ⟨i, hi, hz, hs, hb⟩ := inf5
  refine st_make u34 hi hz hs hb (by omega) (by omega) hU hO ?_
  intro g w1 hU1 hO1 hg
  rw [step_run (build_dev _ _ _ _)]
  refine st_box hU1 hO1 ?_
  intro g2 w2 hU2 hO2 hg2
  refine ⟨hU2, .inr ⟨hok, _, [(g2, .cells (.slice (some ⟨g, 0, none⟩) k k :: List.replicate 8 (.pointer none)).toArray 60 (0, 0)), (g, .cells (madeCells (Value.int .u8 0).cells (k * 1)) 5 (0, 0))], rfl, ?_, hO2, ?_⟩⟩
  · rw [Int.toNat_natCast]
    have hrow : RowH 5 1 (.slice (some ⟨g, 0, none⟩) k k) k (bytesV (List.replicate k 0)) [(g, .cells (madeCells (Value.int .u8 0).cells (k * 1)) 5 (0, 0))] :=
      ⟨by simp [bytesV], .inr ⟨g, k, _, rfl, rfl, Nat.le_refl _, by unfold maxLen; unfold sizeOk at hok; omega, size_madeCells _ _, by
        rw [Nat.mul_one, show (Value.int .u8 0).cells = #[Value.int .u8 0] from rfl, toList_madeCells_one]
        simp [bytesV]⟩⟩
    refine ⟨g2, _, _, [(g, .cells (madeCells (Value.int .u8 0).cells (k * 1)) 5 (0, 0))], [], rfl, rfl, by simpa [newD] using hrow, by simp, fun i u hi => ?_⟩
    · simp only [newD, List.getElem?_replicate] at hi ⊢
      split at hi
      · rename_i h8; cases hi; exact ⟨_, if_pos h8, rfl⟩
      · cases hi
  · intro p hp
    simp at hp
    rcases hp with rfl | rfl
    · exact hg2
    · exact hg

theorem Read_nil (w : World) (at_ n : Int) : CallsR Try.prog 14 #[.pointer none, .int .i64 at_, .int .i64 n] w fun r w' => r = .tuple #[.slice none 0 0, .int .i64 1] ∧ w' = w := by
  apply stable_Device_Read_sound
  unfold stable_Device_Read_x
  simp (disch := first | assumption | omega) only [PX, BX, LX]
  trivial
theorem Read_spec {d : Dv} {v : Value} {h G : List (Nat × Obj)} (hd : DevH d v h) (hB : d.B.length ≤ 65536) (hG : ∀ p ∈ h, p ∈ G) (hO : Owns w G) (hU : Upd W w ks) (at_ n : Int) :
    CallsR Try.prog 14 #[v, .int .i64 at_, .int .i64 n] w fun r w' => Upd W w' ks ∧ ((readOut d at_ n ∧ r = .tuple #[.slice none 0 0, .int .i64 2] ∧ Owns w' G) ∨
      (¬ readOut d at_ n ∧ ∃ vr hr, r = .tuple #[vr, .int .i64 0] ∧ RowH 5 1 vr n.toNat (bytesV ((d.B.drop at_.toNat).take n.toNat)) hr ∧ Owns w' (hr ++ G) ∧ ∀ p ∈ hr, W.heap.size ≤ p.1)) := by
  apply stable_Device_Read_sound
  unfold stable_Device_Read_x
  obtain ⟨g, A, c, rfl, c0, hc, hrd, hup⟩ := hd.cells hG hO
  simp (disch := first | assumption | omega) only [PX, BX, stable_Device_Read_k1]
  refine ⟨fun h => ⟨hU, .inl ⟨.inl h, trivial, hO⟩⟩, fun h0 => ⟨fun h => ⟨hU, .inl ⟨.inr (.inl h), trivial, hO⟩⟩, fun h1 => ?_⟩⟩
  obtain ⟨a, rfl⟩ : ∃ k : Nat, at_ = k := ⟨at_.toNat, by omega⟩
  obtain ⟨m, rfl⟩ : ∃ k : Nat, n = k := ⟨n.toNat, by omega⟩
  simp (disch := first | assumption | omega) only [PX, BX, LX]
  refine ⟨fun h => ⟨hU, .inl ⟨.inr (.inr (by omega)), trivial, hO⟩⟩, fun h2 => ?_⟩
  rw [w64 (by omega) (by omega)]
  refine ⟨fun h => ⟨hU, .inl ⟨.inr (.inr (by omega)), trivial, hO⟩⟩, fun h3 => ?_⟩
  have hnr : ¬ readOut d a m := by unfold readOut; omega
  refine st_newRow empty_row (Upd.refl w []) hO ?_
  intro g1 w1 hU1 hO1 hg1
  have c1 : w1.cell? ⟨g, 0, none⟩ = some (.slice A d.B.length c) := by rw [hU1.cell (World.block_lt_of_cell? w _ c0) (by simp)]; exact c0
  simp (disch := first | assumption | omega) only [PX, BX, LX]
  rw [w64 (by omega) (by omega), show ((a : Int) + (m : Int)) = ((a + m : Nat) : Int) by omega, step_run (run_slice2 u34 sz5 (by omega) (by omega))]
  have hr := (hrd.mono hU1).sub (lo := a) (hi := a + m) (by omega) (by omega)
  rw [show a + m - a = m by omega] at hr ⊢
  refine st_fill hO1 hU1 hg1 (ys := bytesV ((d.B.drop a).take m)) (by simpa [bytesV, List.map_take, List.map_drop] using hr) (bytesV_one _) (by omega) ?_
  intro v' w' h' hr' hO' hU' hh'
  exact ⟨hU.then_ hU' fun x hx => (by cases hx), .inr ⟨hnr, v', h', rfl, by simpa using hr', hO', fun p hp => Nat.le_trans hU.size (hh' p hp)⟩⟩
end Go.Proofs.Ytdkahgknoohbpaa
