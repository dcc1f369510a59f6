/- Check, May, light. -/
import Derived.Test.YtconmaojfkmlnaaRecC
namespace Go.Proofs.Ytconmaojfkmlnaa.Rec
open Go Go.Proofs.Ytconmaojfkmlnaa Xf Go.RowKit
set_option linter.unusedVariables false
set_option linter.unusedSimpArgs false
set_option maxRecDepth 100000

theorem build_ac (w : World) : (sBuild 29 []).run Try.prog w = .ok (.value (.agg (acV 0 [] [] []).toArray)) w := by kernel_rfl
theorem RdRe.blk {w w1 : World} {g : Nat} {r : Re} {vt vd : Value} (hO : Owns w1 [(g, reO r vt vd)]) (hU : Upd w w1 []) (ht : RdS w txV 3 vt r.ts) (hd : RdS w diV 2 vd r.ds) : RdRe w1 (.agg (reV r vt vd).toArray) r := ⟨vt, vd, rfl, ht.mono hU, hd.mono hU⟩
theorem RdS.len {α : Type} {w : World} {f : α → List Value} {k : Nat} {v : Value} {l : List α} (h : RdS w f k v l) : ∃ A c, v = .slice A l.length c ∧ l.length ≤ maxLen := by
  obtain ⟨A, c, h1, h2, _⟩ := h; exact ⟨A, c, h1, h2⟩

def p1 (r : Re) : Prop := 0 < r.kind ∧ r.kind < 9 ∧ numP r.lsn ∧ r.prev < r.lsn ∧ r.undo < r.lsn
def p2 (r : Re) : Prop := if chgP r.kind then pageP r.page ∧ actP r.ak r.key r.old r.new else r.page = 0 ∧ r.ak = 0 ∧ r.key = [] ∧ r.old = [] ∧ r.new = []
def p3 (r : Re) : Prop := if ptP r.kind then r.txn = 0 ∧ r.prev = 0 else txnP r.txn
def p4 (r : Re) : Prop := r.kind ≠ 8 → r.ts = [] ∧ r.ds = []
theorem okP_iff (r : Re) : okP r ↔ (((p1 r ∧ p2 r) ∧ p3 r) ∧ p4 r) ∧ (r.kind ≠ 2 → r.undo = 0) ∧ tabP r := by
  unfold okP p1 p2 p3 p4
  constructor
  · rintro ⟨a, b, c, d, e, f, g, h, i, j⟩; exact ⟨⟨⟨⟨⟨a, b, c, d, e⟩, f⟩, g⟩, h⟩, i, j⟩
  · rintro ⟨⟨⟨⟨⟨a, b, c, d, e⟩, f⟩, g⟩, h⟩, i, j⟩; exact ⟨a, b, c, d, e, f, g, h, i, j⟩
noncomputable instance (r : Re) : Decidable (p1 r) := Classical.propDecidable _
noncomputable instance (r : Re) : Decidable (p2 r) := Classical.propDecidable _
noncomputable instance (r : Re) : Decidable (p3 r) := Classical.propDecidable _
noncomputable instance (r : Re) : Decidable (p4 r) := Classical.propDecidable _
def okN (p : Prop) [Decidable p] : Nat := if p then 0 else 1
theorem ok0 {p : Prop} [Decidable p] (h : p) : Value.int .i64 0 = .int .i64 (okN p : Nat) := by unfold okN; rw [if_pos h]; rfl
theorem ok1 {p : Prop} [Decidable p] (h : ¬ p) : Value.int .i64 1 = .int .i64 (okN p : Nat) := by unfold okN; rw [if_neg h]; rfl
theorem len0 {α : Type} (l : List α) : ((l.length : Int) = 0) = (l = []) := by
  cases l with
  | nil => simp
  | cons a l => simp; omega

theorem Check_spec (w : World) (v : Value) (r : Re) (h : RdRe w v r) : CallsR Try.prog 16 #[v] w fun u w' => u = .int .i64 (okN (okP r) : Nat) ∧ Upd w w' [] := by
  obtain ⟨vt, vd, rfl, hT, hD⟩ := h
  obtain ⟨At', ct, rfl, hmt⟩ := RdS.len hT
  obtain ⟨Ad, cd, rfl, hmd⟩ := RdS.len hD
  apply rec_Check_sound
  unfold rec_Check_x
  refine st_box (Upd.refl w []) (Owns.nil w) ?_
  intro g w1 hU1 hO1 hg
  have hO1 : Owns w1 [(g, reO r (.slice At' r.ts.length ct) (.slice Ad r.ds.length cd))] := hO1
  let R : Prop → List Value → World → Prop := fun p vs w' => (∃ b, vs.getD 0 undef = .bool b ∧ (b = true ↔ p)) ∧ Upd w w' [] ∧ Owns w' [(g, reO r (.slice At' r.ts.length ct) (.slice Ad r.ds.length cd))]
  have jt : ∀ {p : Prop} {j : List Value → World → Prop}, (∀ vs w', R p vs w' → j vs w') → ∀ (b : Bool) (w' : World), (b = true ↔ p) → Upd w w' [] → Owns w' [(g, reO r (.slice At' r.ts.length ct) (.slice Ad r.ds.length cd))] → j [.bool b] w' := fun hj b w' hb hU hO => hj _ _ ⟨⟨b, rfl, hb⟩, hU, hO⟩
  refine st_join (R (p1 r)) ?_ ?_
  · intro j hj
    obtain ⟨c0, c1, c2, c3, c4, c5, c6, c7, c8, c9, c10, c11⟩ := At.of (hO1.at_ 0 rfl)
    simp (disch := first | assumption | omega) only [PX, BX, LX, add_mk, Nat.reduceAdd]
    refine ⟨fun h1 => ⟨fun h2 => ?_, fun h2 => jt hj _ _ ?_ hU1 hO1⟩, fun h1 => jt hj _ _ ?_ hU1 hO1⟩
    · refine st_call (numbered_spec _ _) ?_
      rintro _ w2 ⟨rfl, rfl⟩
      simp (disch := first | assumption | omega) only [PX, BX, LX, add_mk, Nat.reduceAdd]
      refine ⟨fun h3 => ⟨fun h4 => jt hj _ _ ?_ hU1 hO1, fun h4 => jt hj _ _ ?_ hU1 hO1⟩, fun h3 => jt hj _ _ ?_ hU1 hO1⟩ <;> unfold p1 <;> grind
    · unfold p1; grind
    · unfold p1; grind
  clear hU1 hO1
  rintro dv vs w2 ⟨⟨b, hb, hp⟩, hU2, hO2⟩
  unfold rec_Check_j6
  refine st_join (R (p1 r ∧ p2 r)) ?_ ?_
  · intro j hj
    obtain ⟨c0, c1, c2, c3, c4, c5, c6, c7, c8, c9, c10, c11⟩ := At.of (hO2.at_ 0 rfl)
    simp (disch := first | assumption | omega) only [PX, BX, LX, add_mk, Nat.reduceAdd, hb]
    refine st_call (changes_spec _ _) ?_
    rintro _ w3 ⟨rfl, rfl⟩
    cases b with
    | false =>
      simp only [BX]
      exact ⟨fun _ => jt hj _ _ (by grind) hU2 hO2, fun _ => jt hj _ _ (by grind) hU2 hO2⟩
    | true =>
      simp (disch := first | assumption | omega) only [PX, BX, LX, add_mk, Nat.reduceAdd]
      refine ⟨fun h1 => ?_, fun h1 => ⟨fun h2 => ?_, fun h2 => jt hj _ _ (by unfold p2; grind) hU2 hO2⟩⟩
      · refine st_call (page_spec _ _) ?_
        rintro _ w4 ⟨rfl, rfl⟩
        simp (disch := first | assumption | omega) only [PX, BX, LX, add_mk, Nat.reduceAdd]
        refine ⟨fun h2 => ?_, fun h2 => jt hj _ _ (by unfold p2; grind) hU2 hO2⟩
        rw [step_run (run_ac (hO2.at_ 0 rfl))]
        refine st_call (mayAct_spec _ _ _ _ _) ?_
        rintro _ w5 ⟨rfl, hU5⟩
        exact jt hj _ _ (by unfold p2; grind) (hU2.trans hU5) (hO2.ext hU5)
      · rw [step_run (run_ac (hO2.at_ 0 rfl)), step_run (build_ac _), step_run ((ac_eq _ _ _ _ _ _ _ _ _).1 _ _)]
        exact jt hj _ _ (by unfold p2; grind) hU2 hO2
  clear hb hp hU2 hO2 dv vs b
  rintro dv vs w2 ⟨⟨b, hb, hp⟩, hU2, hO2⟩
  unfold rec_Check_j5
  refine st_join (R ((p1 r ∧ p2 r) ∧ p3 r)) ?_ ?_
  · intro j hj
    obtain ⟨c0, c1, c2, c3, c4, c5, c6, c7, c8, c9, c10, c11⟩ := At.of (hO2.at_ 0 rfl)
    simp (disch := first | assumption | omega) only [PX, BX, LX, add_mk, Nat.reduceAdd, hb]
    refine st_call (points_spec _ _) ?_
    rintro _ w3 ⟨rfl, rfl⟩
    cases b with
    | false =>
      simp only [BX]
      exact ⟨fun _ => jt hj _ _ (by grind) hU2 hO2, fun _ => jt hj _ _ (by grind) hU2 hO2⟩
    | true =>
      simp (disch := first | assumption | omega) only [PX, BX, LX, add_mk, Nat.reduceAdd]
      refine ⟨fun h1 => ⟨fun h2 => jt hj _ _ (by unfold p3; grind) hU2 hO2, fun h2 => jt hj _ _ (by unfold p3; grind) hU2 hO2⟩, fun h1 => ?_⟩
      refine st_call (txn_spec _ _) ?_
      rintro _ w4 ⟨rfl, rfl⟩
      exact jt hj _ _ (by unfold p3; grind) hU2 hO2
  clear hb hp hU2 hO2 dv vs b
  rintro dv vs w2 ⟨⟨b, hb, hp⟩, hU2, hO2⟩
  unfold rec_Check_j4
  refine st_join (R (((p1 r ∧ p2 r) ∧ p3 r) ∧ p4 r)) ?_ ?_
  · intro j hj
    obtain ⟨c0, c1, c2, c3, c4, c5, c6, c7, c8, c9, c10, c11⟩ := At.of (hO2.at_ 0 rfl)
    simp (disch := first | assumption | omega) only [PX, BX, LX, add_mk, Nat.reduceAdd, hb]
    refine ⟨fun h1 => ?_, fun h1 => jt hj _ _ (by unfold p4; grind) hU2 hO2⟩
    cases b with
    | false =>
      simp only [BX]
      exact jt hj _ _ (by grind) hU2 hO2
    | true =>
      simp (disch := first | assumption | omega) only [PX, BX, LX, add_mk, Nat.reduceAdd, len0]
      refine ⟨fun h2 => jt hj _ _ (by unfold p4; grind) hU2 hO2, fun h2 => jt hj _ _ (by unfold p4; grind) hU2 hO2⟩
  clear hb hp hU2 hO2 dv vs b
  rintro dv vs w2 ⟨⟨b, hb, hp⟩, hU2, hO2⟩
  have hi := okP_iff r
  obtain ⟨c0, c1, c2, c3, c4, c5, c6, c7, c8, c9, c10, c11⟩ := At.of (hO2.at_ 0 rfl)
  unfold rec_Check_j3 rec_Check_k1 rec_Check_k2
  simp (disch := first | assumption | omega) only [PX, BX, LX, add_mk, Nat.reduceAdd, hb]
  cases b with
  | false =>
    simp only [BX]
    exact ⟨ok1 (by grind), hU2⟩
  | true =>
    have hp := hp.1 rfl
    simp (disch := first | assumption | omega) only [PX, BX, LX, add_mk, Nat.reduceAdd]
    refine ⟨fun h1 => ⟨fun h2 => ⟨ok1 (by grind), hU2⟩, fun h2 => ?_⟩, fun h1 => ?_⟩
    all_goals
      rw [step_run (run_re (hO2.at_ 0 rfl))]
      refine st_call (tables_spec _ _ _ (RdRe.blk hO2 hU2 hT hD)) ?_
      rintro _ w5 ⟨rfl, hU5⟩
      simp only [PX, BX]
      exact ⟨fun h => ⟨ok0 (by grind), hU2.trans hU5⟩, fun h => ⟨ok1 (by grind), hU2.trans hU5⟩⟩

theorem May_spec (w : World) (v : Value) (r : Re) (hs : r.ts.length ≤ 1000 ∧ r.ds.length ≤ 1000) (h : RdRe w v r) : CallsR Try.prog 31 #[v] w fun u w' => u = .bool (decide (okP r)) ∧ Upd w w' [] := by
  obtain ⟨vt, vd, rfl, hT, hD⟩ := h
  obtain ⟨At', ct, rfl, hmt⟩ := RdS.len hT
  obtain ⟨Ad, cd, rfl, hmd⟩ := RdS.len hD
  apply flotillaref05_May_sound
  unfold flotillaref05_May_x flotillaref05_May_k1 flotillaref05_May_k6
  refine st_box (Upd.refl w []) (Owns.nil w) ?_
  intro g w1 hU1 hO1 hg
  have hO1 : Owns w1 [(g, reO r (.slice At' r.ts.length ct) (.slice Ad r.ds.length cd))] := hO1
  have hi := okP_iff r
  have bad : ∀ w', Upd w w' [] → ¬ okP r → Value.bool false = .bool (decide (okP r)) ∧ Upd w w' [] := fun w' hU h => ⟨bf h, hU⟩
  let R : Prop → List Value → World → Prop := fun p vs w' => p ∧ Upd w w' [] ∧ Owns w' [(g, reO r (.slice At' r.ts.length ct) (.slice Ad r.ds.length cd))]
  obtain ⟨c0, c1, c2, c3, c4, c5, c6, c7, c8, c9, c10, c11⟩ := At.of (hO1.at_ 0 rfl)
  simp (disch := first | assumption | omega) only [PX, BX, LX, add_mk, Nat.reduceAdd]
  refine ⟨fun h => bad _ hU1 (by unfold p1 at hi; grind), fun h1 => ⟨fun h => bad _ hU1 (by unfold p1 at hi; grind), fun h2 => ?_⟩⟩
  refine st_call (Numbered_spec _ _) ?_
  rintro _ w2 ⟨rfl, rfl⟩
  simp (disch := first | assumption | omega) only [PX, BX, LX, add_mk, Nat.reduceAdd]
  refine ⟨fun h3 => ⟨fun h => bad _ hU1 (by unfold p1 at hi; grind), fun h4 => ⟨fun h => bad _ hU1 (by unfold p1 at hi; grind), fun h5 => ?_⟩⟩, fun h => bad _ hU1 (by unfold p1 at hi; grind)⟩
  have hp1 : p1 r := by unfold p1; grind
  refine st_join (R (p1 r ∧ p2 r)) ?_ ?_
  · intro j hj
    refine st_call (Changes_spec _ _) ?_
    rintro _ w3 ⟨rfl, rfl⟩
    simp (disch := first | assumption | omega) only [PX, BX, LX, add_mk, Nat.reduceAdd]
    refine ⟨fun h6 => ⟨fun h => bad _ hU1 (by unfold p2 pageP at hi; grind), fun h7 => ⟨fun h => bad _ hU1 (by unfold p2 pageP at hi; grind), fun h8 => ?_⟩⟩, fun h6 => ⟨fun h => bad _ hU1 (by unfold p2 at hi; grind), fun h7 => ?_⟩⟩
    · rw [step_run (run_ac (hO1.at_ 0 rfl))]
      refine st_call (ActMay_spec _ _ _ _ _) ?_
      rintro _ w5 ⟨rfl, hU5⟩
      simp (disch := first | assumption | omega) only [PX, BX]
      exact ⟨fun h => hj _ _ ⟨⟨hp1, by unfold p2 pageP; grind⟩, hU1.trans hU5, hO1.ext hU5⟩, fun h => bad _ (hU1.trans hU5) (by unfold p2 at hi; grind)⟩
    · rw [step_run (run_ac (hO1.at_ 0 rfl)), step_run (build_ac _), step_run ((ac_eq _ _ _ _ _ _ _ _ _).2 _ _)]
      simp only [BX]
      exact ⟨fun h => hj _ _ ⟨⟨hp1, by unfold p2; grind⟩, hU1, hO1⟩, fun h => bad _ hU1 (by unfold p2 at hi; grind)⟩
  clear hO1 hU1 c0 c1 c2 c3 c4 c5 c6 c7 c8 c9 c10 c11 hp1
  rintro dv vs w2 ⟨hp, hU1, hO1⟩
  obtain ⟨c0, c1, c2, c3, c4, c5, c6, c7, c8, c9, c10, c11⟩ := At.of (hO1.at_ 0 rfl)
  have rest : (r.kind ≠ 2 → r.undo = 0) → flotillaref05_May_k2 (std Try.prog) (.pointer (some ⟨g, 0, none⟩)) w2 fun u w' => u = .bool (decide (okP r)) ∧ Upd w w' [] := by
    intro hun
    unfold flotillaref05_May_k2
    refine st_join (R ((p1 r ∧ p2 r) ∧ p3 r)) ?_ ?_
    · intro j hj
      simp (disch := first | assumption | omega) only [PX, BX, LX, add_mk, Nat.reduceAdd]
      have jt : p3 r → j [] w2 := fun h => hj _ _ ⟨⟨hp, h⟩, hU1, hO1⟩
      refine ⟨fun h => ⟨fun h => bad _ hU1 (by unfold p3 ptP at hi; grind), fun h2 => ⟨fun h => bad _ hU1 (by unfold p3 ptP at hi; grind), fun h3 => jt (by unfold p3 ptP; grind)⟩⟩,
        fun h => ⟨fun h => ⟨fun h => bad _ hU1 (by unfold p3 ptP at hi; grind), fun h2 => ⟨fun h => bad _ hU1 (by unfold p3 ptP at hi; grind), fun h3 => jt (by unfold p3 ptP; grind)⟩⟩,
          fun h => ⟨fun h => bad _ hU1 (by unfold p3 ptP txnP at hi; grind), fun h2 => ⟨fun h => bad _ hU1 (by unfold p3 ptP txnP at hi; grind), fun h3 => jt (by unfold p3 ptP txnP; grind)⟩⟩⟩⟩
    clear hO1 hU1 c0 c1 c2 c3 c4 c5 c6 c7 c8 c9 c10 c11 hp
    rintro dv vs w2 ⟨hp, hU1, hO1⟩
    obtain ⟨c0, c1, c2, c3, c4, c5, c6, c7, c8, c9, c10, c11⟩ := At.of (hO1.at_ 0 rfl)
    have fin : p4 r → flotillaref05_May_k3 (std Try.prog) (.pointer (some ⟨g, 0, none⟩)) w2 fun u w' => u = .bool (decide (okP r)) ∧ Upd w w' [] := by
      intro h4
      unfold flotillaref05_May_k3
      rw [step_run (run_re (hO1.at_ 0 rfl))]
      refine st_call (Rows_spec _ _ _ (RdRe.blk hO1 hU1 hT hD)) ?_
      rintro _ w5 ⟨rfl, hU5⟩
      exact ⟨bd (by grind), hU1.trans hU5⟩
    unfold flotillaref05_May_j4
    simp (disch := first | assumption | omega) only [PX, BX, LX, add_mk, Nat.reduceAdd, w64]
    have e1 := List.length_eq_zero_iff (l := r.ts)
    have e2 := List.length_eq_zero_iff (l := r.ds)
    refine ⟨fun h => ⟨fun h2 => bad _ hU1 fun ho => ?_, fun h2 => fin fun _ => ⟨e1.1 (by omega), e2.1 (by omega)⟩⟩, fun h => fin fun h' => absurd h' h⟩
    have := (hi.1 ho).1.2 h
    rw [e1.2 this.1, e2.2 this.2] at h2
    omega
  unfold flotillaref05_May_j5
  simp (disch := first | assumption | omega) only [PX, BX, LX, add_mk, Nat.reduceAdd]
  exact ⟨fun h => ⟨fun h => bad _ hU1 (by grind), fun h => rest (by grind)⟩, fun h => rest (by grind)⟩

def lightP (r : Re) : Prop := r.ts.length ≤ 300 ∧ r.ds.length ≤ 300 ∧ r.key.length + r.old.length + r.new.length ≤ 1000
instance (r : Re) : Decidable (lightP r) := by unfold lightP; infer_instance
theorem light_spec (w : World) (v : Value) (r : Re) (hs : r.key.length + r.old.length + r.new.length < 9223372036854775808) (h : RdRe w v r) : CallsR Try.prog 17 #[v] w fun u w' => u = .bool (decide (lightP r)) ∧ Upd w w' [] := by
  obtain ⟨vt, vd, rfl, hT, hD⟩ := h
  obtain ⟨At', ct, rfl, hmt⟩ := RdS.len hT
  obtain ⟨Ad, cd, rfl, hmd⟩ := RdS.len hD
  apply flotillalaw05_light_sound
  unfold flotillalaw05_light_x flotillalaw05_light_k1
  refine st_box (Upd.refl w []) (Owns.nil w) ?_
  intro g w1 hU1 hO1 hg
  have hO1 : Owns w1 [(g, reO r (.slice At' r.ts.length ct) (.slice Ad r.ds.length cd))] := hO1
  obtain ⟨c0, c1, c2, c3, c4, c5, c6, c7, c8, c9, c10, c11⟩ := At.of (hO1.at_ 0 rfl)
  simp (disch := first | assumption | omega) only [PX, BX, LX, add_mk, Nat.reduceAdd, size_mk, w64]
  exact ⟨fun h1 => ⟨fun h2 => ⟨bd (by unfold lightP; omega), hU1⟩, fun h => ⟨bf (by unfold lightP; omega), hU1⟩⟩, fun h => ⟨bf (by unfold lightP; omega), hU1⟩⟩
end Go.Proofs.Ytconmaojfkmlnaa.Rec
