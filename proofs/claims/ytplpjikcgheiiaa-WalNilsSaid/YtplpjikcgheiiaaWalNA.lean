/- WalNils. -/
import Derived.Test.YtplpjikcgheiiaaWalZ
namespace Go.Proofs.Ytplpjikcgheiiaa.Wal
open Go Go.Proofs.Ytplpjikcgheiiaa Go.Proofs.Ytplpjikcgheiiaa.Rec Xf Go.RowKit Go.ChangeShapes Go.WideShapes Go.Deep
set_option linter.unusedVariables false
set_option linter.unusedSimpArgs false
set_option maxRecDepth 100000

section
variable {W w : World}
theorem scan_nil : CallsR Try.prog 40 #[.pointer none] w fun u w' => u = .tuple #[.slice none 0 0, .int .i64 0] ∧ w' = w := by
  apply wal_scan_sound
  unfold wal_scan_x
  refine st_call (Size_nil w) ?_
  rintro _ w1 ⟨rfl, rfl⟩
  simp only [PX, BX]
  exact ⟨fun _ => ⟨trivial, trivial⟩, fun h => absurd (by decide) h⟩
theorem Read_nil' : CallsR Try.prog 21 #[.pointer none] w fun u w' => (∃ A c, u = .slice A 0 c) ∧ Upd w w' [] := by
  apply wal_Read_sound
  unfold wal_Read_x
  refine st_call scan_nil ?_
  rintro _ w1 ⟨rfl, rfl⟩
  simp only [PX]
  refine st_call (records_spec w1 (.slice none 0 0) [] (fun x hx => by cases hx) (by simp) ⟨none, 0, rfl, Nat.zero_le _, fun i hi => by simp at hi⟩) ?_
  rintro u w2 ⟨hU, hR⟩
  obtain ⟨A, c, rfl, -⟩ := hR
  exact ⟨⟨A, c, rfl⟩, hU⟩
theorem Find_nil (l : Int) : CallsR Try.prog 36 #[.pointer none, .int .u64 l] w fun u w' => u = .tuple #[.agg (reV re0 nilS nilS).toArray, .bool false] ∧ Upd w w' [] := by
  apply wal_Log_Find_sound
  unfold wal_Log_Find_x
  refine st_box (Upd.refl w []) (Owns.nil w) ?_
  intro g w1 hU1 hO1 hg
  refine st_box hU1 hO1 ?_
  intro g2 w2 hU2 hO2 hg2
  refine st_alloc ze_re hU2 hO2 ?_
  intro g3 w3 hU3 hO3 hg3
  have c0 : w3.cell? ⟨g, 0, none⟩ = some (.pointer none) := (cell_at (hO3.at_ 2 rfl)).trans rfl
  simp (disch := first | assumption | omega) only [PX, BX, LX]
  rw [step_run (build_re0 _)]
  refine st_re (r0 := re0) (vt0 := nilS) (vd0 := nilS) hU3 hO3 0 rfl rfl rfl (.inr hg3) ?_
  intro w4 hU4 hO4
  refine st_loadR (run_loadVarN (cs := reV re0 nilS nilS) ag41 (by rw [sz41]; rfl) (cells_read (hO4.at_ 0 rfl))) ?_
  exact ⟨rfl, hU4⟩
theorem join_nil {v : Value} {r : Re} (hr : RdRe w v r) (room : Int) : CallsR Try.prog 41 #[.pointer none, v, .int .i64 room] w fun u w' => u = .int .i64 1 ∧ Upd w w' [] := by
  apply wal_Log_join_sound
  unfold wal_Log_join_x
  refine st_box (Upd.refl w []) (Owns.nil w) ?_
  intro g w1 hU1 hO1 hg
  simp only [PX, BX]
  exact ⟨trivial, hU1⟩
theorem Room_nil : CallsR Try.prog 30 #[.pointer none] w fun u w' => u = .int .i64 0 ∧ w' = w := by
  apply wal_Log_Room_sound
  unfold wal_Log_Room_x
  simp only [PX, BX]
  trivial
theorem Kept_nil : CallsR Try.prog 31 #[.pointer none] w fun u w' => u = .int .i64 0 ∧ w' = w := by
  apply wal_Log_Kept_sound
  unfold wal_Log_Kept_x
  simp only [PX, BX]
  trivial
theorem Append_nil {v : Value} {r : Re} (hr : RdRe w v r) : CallsR Try.prog 12 #[.pointer none, v] w fun u w' => u = .int .i64 1 ∧ Upd w w' [] := by
  obtain ⟨vt, vd, rfl, ht, hd⟩ := hr
  apply wal_Log_Append_sound
  unfold wal_Log_Append_x
  refine st_box (Upd.refl w []) (Owns.nil w) ?_
  intro g w1 hU1 hO1 hg
  have hO1 : Owns w1 [(g, reO r vt vd)] := hO1
  have hO2 := hO1.ext (Upd.drew w1 [])
  have hU2 := hU1.trans (Upd.drew w1 [])
  let SS : World → Prop := fun w' => w'.heap[g]? = some (reO r vt vd)
  have hne : ∃ w', SS w' := ⟨_, hO2.at_ 0 rfl⟩
  refine st_draw SS (hO2.at_ 0 rfl) ?_
  rw [stepS_run hne fun w' hs => run_re hs]
  refine st_call Room_nil ?_
  rintro _ w3 ⟨rfl, rfl⟩
  refine st_same (hO2.at_ 0 rfl) ?_
  refine st_call (join_nil (r := r) ⟨vt, vd, rfl, ht.mono hU2, hd.mono hU2⟩ 0) ?_
  rintro _ w4 ⟨rfl, hU4⟩
  exact st_keepT (fun _ => True) trivial ⟨rfl, hU2.trans hU4⟩
theorem Spend_nil {v : Value} {r : Re} (hr : RdRe w v r) : CallsR Try.prog 33 #[.pointer none, v] w fun u w' => u = .int .i64 1 ∧ Upd w w' [] := by
  obtain ⟨vt, vd, rfl, ht, hd⟩ := hr
  apply wal_Log_Spend_sound
  unfold wal_Log_Spend_x wal_Log_Spend_k1
  refine st_box (Upd.refl w []) (Owns.nil w) ?_
  intro g w1 hU1 hO1 hg
  have hO1 : Owns w1 [(g, reO r vt vd)] := hO1
  have hO2 := hO1.ext (Upd.drew w1 [])
  have hU2 := hU1.trans (Upd.drew w1 [])
  let SS : World → Prop := fun w' => w'.heap[g]? = some (reO r vt vd)
  have hne : ∃ w', SS w' := ⟨_, hO2.at_ 0 rfl⟩
  refine st_draw SS (hO2.at_ 0 rfl) ?_
  rw [stepS_run hne fun w' hs => run_re hs]
  refine st_call Kept_nil ?_
  rintro _ w3 ⟨rfl, rfl⟩
  refine st_same (hO2.at_ 0 rfl) ?_
  refine st_call (join_nil (r := r) ⟨vt, vd, rfl, ht.mono hU2, hd.mono hU2⟩ 0) ?_
  rintro _ w4 ⟨rfl, hU4⟩
  refine st_keepT (fun _ => True) trivial ?_
  simp only [PX, BX]
  exact ⟨fun h => absurd h (by decide), fun _ => ⟨trivial, hU2.trans hU4⟩⟩
theorem Keep_nil (m : Int) : CallsR Try.prog 29 #[.pointer none, .int .i64 m] w fun u w' => u = .int .i64 1 ∧ w' = w := by
  apply wal_Log_Keep_sound
  unfold wal_Log_Keep_x
  simp only [PX, BX]
  trivial
theorem Done_nil : CallsR Try.prog 14 #[.pointer none] w fun u w' => u = .int .i64 1 ∧ w' = w := by
  apply wal_Log_Done_sound
  unfold wal_Log_Done_x
  simp only [PX, BX]
  trivial
theorem Force_nil : CallsR Try.prog 13 #[.pointer none] w fun u w' => u = .bool false ∧ Upd w w' [] := by
  apply wal_Log_Force_sound
  unfold wal_Log_Force_x wal_Log_Force_k1
  have hne : ∃ w' : World, (fun _ => True) w' := ⟨w, trivial⟩
  refine st_draw (fun _ => True) trivial ?_
  simp (disch := first | exact hne | omega) only [SX, BX]
  exact ⟨trivial, Upd.drew w []⟩
theorem Flying_nil' : CallsR Try.prog 35 #[.pointer none] w fun u w' => u = .bool false ∧ w' = w := by
  apply wal_Log_Flying_sound
  unfold wal_Log_Flying_x
  simp only [PX, BX]
  trivial
theorem Records_nil : CallsR Try.prog 16 #[.pointer none] w fun u w' => u = .slice none 0 0 ∧ w' = w := by
  apply wal_Log_Records_sound
  unfold wal_Log_Records_x
  simp only [PX, BX]
  trivial
theorem Stable_nil : CallsR Try.prog 25 #[.pointer none] w fun u w' => u = .int .u64 0 ∧ w' = w := by
  apply wal_Log_Stable_sound
  unfold wal_Log_Stable_x
  simp only [PX, BX]
  trivial
theorem Last_nil : CallsR Try.prog 32 #[.pointer none] w fun u w' => u = .int .u64 0 ∧ w' = w := by
  apply wal_Log_Last_sound
  unfold wal_Log_Last_x
  simp only [PX, BX]
  trivial
theorem Drop_nil (m : Int) : CallsR Try.prog 37 #[.pointer none, .int .i64 m] w fun u w' => u = .tuple #[] ∧ w' = w := by
  apply wal_Log_Drop_sound
  unfold wal_Log_Drop_x
  simp only [PX, BX]
  trivial
end
end Go.Proofs.Ytplpjikcgheiiaa.Wal
