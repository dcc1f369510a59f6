/- When a record may be: what the code answers. -/
import Derived.Test.YtconmaojfkmlnaaRecM
namespace Go.Proofs.Ytconmaojfkmlnaa.Rec
open Go Go.Proofs.Ytconmaojfkmlnaa Xf Go.RowKit
set_option linter.unusedVariables false
set_option linter.unusedSimpArgs false
set_option maxRecDepth 100000
noncomputable instance (r : Re) : Decidable (tabP r) := Classical.propDecidable _
noncomputable instance (r : Re) : Decidable (okP r) := Classical.propDecidable _

theorem numbered_spec (w : World) (n : Nat) : CallsR Try.prog 40 #[.int .u64 (n : Nat)] w fun r w' => r = .bool (decide (numP n)) ∧ w' = w := by
  apply rec_numbered_sound
  unfold rec_numbered_x
  simp only [PX, BX]
  exact ⟨fun h => ⟨bd (by unfold numP; omega), trivial⟩, fun h => ⟨bf (by unfold numP; omega), trivial⟩⟩
theorem page_spec (w : World) (n : Int) : CallsR Try.prog 42 #[.int .i64 n] w fun r w' => r = .bool (decide (pageP n)) ∧ w' = w := by
  apply rec_page_sound
  unfold rec_page_x
  simp only [PX, BX]
  exact ⟨fun h => ⟨bd (by unfold pageP; omega), trivial⟩, fun h => ⟨bf (by unfold pageP; omega), trivial⟩⟩
theorem txn_spec (w : World) (n : Int) : CallsR Try.prog 45 #[.int .i64 n] w fun r w' => r = .bool (decide (txnP n)) ∧ w' = w := by
  apply rec_txn_sound
  unfold rec_txn_x
  simp only [PX, BX]
  exact ⟨fun h => ⟨bd (by unfold txnP; omega), trivial⟩, fun h => ⟨bf (by unfold txnP; omega), trivial⟩⟩
theorem changes_spec (w : World) (n : Int) : CallsR Try.prog 41 #[.int .i64 n] w fun r w' => r = .bool (decide (chgP n)) ∧ w' = w := by
  apply rec_changes_sound
  unfold rec_changes_x
  simp only [PX, BX]
  exact ⟨fun h => ⟨bt (by unfold chgP; omega), trivial⟩, fun h => ⟨bd (by unfold chgP; omega), trivial⟩⟩
theorem points_spec (w : World) (n : Int) : CallsR Try.prog 44 #[.int .i64 n] w fun r w' => r = .bool (decide (ptP n)) ∧ w' = w := by
  apply rec_points_sound
  unfold rec_points_x
  simp only [PX, BX]
  exact ⟨fun h => ⟨bt (by unfold ptP; omega), trivial⟩, fun h => ⟨bd (by unfold ptP; omega), trivial⟩⟩
theorem Changes_spec (w : World) (n : Int) : CallsR Try.prog 27 #[.int .i64 n] w fun r w' => r = .bool (decide (chgP n)) ∧ w' = w := by
  apply flotillaref05_Changes_sound
  unfold flotillaref05_Changes_x
  simp only [PX, BX]
  exact ⟨fun h => ⟨bt (by unfold chgP; omega), trivial⟩, fun h => ⟨bd (by unfold chgP; omega), trivial⟩⟩
theorem Numbered_spec (w : World) (n : Nat) : CallsR Try.prog 62 #[.int .u64 (n : Nat)] w fun r w' => r = .bool (decide (numP n)) ∧ w' = w := by
  apply flotillaref05_Numbered_sound
  unfold flotillaref05_Numbered_x
  simp only [PX, BX]
  exact ⟨fun h => ⟨bd (by unfold numP; omega), trivial⟩, fun h => ⟨bf (by unfold numP; omega), trivial⟩⟩

theorem mayAct_spec (w : World) (k : Int) (a b c : List UInt8) : CallsR Try.prog 43 #[.agg (acV k a b c).toArray] w fun r w' => r = .bool (decide (actP k a b c)) ∧ Upd w w' [] := by
  apply rec_mayAct_sound
  unfold rec_mayAct_x rec_mayAct_k1
  refine st_box (Upd.refl w []) (Owns.nil w) ?_
  intro g w1 hU1 hO1 hg
  have c0 : w1.cell? ⟨g, 0, none⟩ = some (.int .i64 k) := cell_at (hO1.at_ 0 rfl)
  have c1 : w1.cell? ⟨g, 1, none⟩ = some (.string ⟨a.toArray⟩) := cell_at (hO1.at_ 0 rfl)
  have c2 : w1.cell? ⟨g, 2, none⟩ = some (.string ⟨b.toArray⟩) := cell_at (hO1.at_ 0 rfl)
  have c3 : w1.cell? ⟨g, 3, none⟩ = some (.string ⟨c.toArray⟩) := cell_at (hO1.at_ 0 rfl)
  simp (disch := first | assumption | omega) only [PX, BX, LX, add_mk, Nat.reduceAdd, size_mk, mk_nil]
  repeat' (refine ⟨?_, ?_⟩ <;> intro _)
  all_goals (refine ⟨?_, hU1⟩; first | apply bt | apply bf | apply bd) <;> unfold actP <;> grind
theorem ActMay_spec (w : World) (k : Int) (a b c : List UInt8) : CallsR Try.prog 63 #[.agg (acV k a b c).toArray] w fun r w' => r = .bool (decide (actP k a b c)) ∧ Upd w w' [] := by
  apply flotillaref05_ActMay_sound
  unfold flotillaref05_ActMay_x flotillaref05_ActMay_k1 flotillaref05_ActMay_k2 flotillaref05_ActMay_k3 flotillaref05_ActMay_k4
  refine st_box (Upd.refl w []) (Owns.nil w) ?_
  intro g w1 hU1 hO1 hg
  have c0 : w1.cell? ⟨g, 0, none⟩ = some (.int .i64 k) := cell_at (hO1.at_ 0 rfl)
  have c1 : w1.cell? ⟨g, 1, none⟩ = some (.string ⟨a.toArray⟩) := cell_at (hO1.at_ 0 rfl)
  have c2 : w1.cell? ⟨g, 2, none⟩ = some (.string ⟨b.toArray⟩) := cell_at (hO1.at_ 0 rfl)
  have c3 : w1.cell? ⟨g, 3, none⟩ = some (.string ⟨c.toArray⟩) := cell_at (hO1.at_ 0 rfl)
  simp (disch := first | assumption | omega) only [PX, BX, LX, add_mk, Nat.reduceAdd, size_mk, mk_nil]
  repeat' (refine ⟨?_, ?_⟩ <;> intro _)
  all_goals (refine ⟨?_, hU1⟩; first | apply bt | apply bf | apply bd) <;> unfold actP <;> grind
end Go.Proofs.Ytconmaojfkmlnaa.Rec
