/- read, whole. -/
import Derived.Test.YtconmaojfkmlnaaRecO
namespace Go.Proofs.Ytconmaojfkmlnaa.Rec
open Go Go.Proofs.Ytconmaojfkmlnaa Go.Proofs.Ytconmaojfkmlnaa.Enc Xf Go.RowKit
set_option linter.unusedVariables false
set_option linter.unusedSimpArgs false
set_option maxRecDepth 100000

abbrev faultC : List PanicEntry := [{ v := faultV, recovered := false }]
def ReadsR (W : World) (l : List UInt8) (e : Ending) (w' : World) : Prop :=
  (isRe l ∧ ∃ vt vd ht hd, e = .returned (.agg (reV (gAll l).1 vt vd).toArray) ∧ RowH 51 3 vt (gAll l).1.ts.length ((gAll l).1.ts.flatMap txV) ht ∧ RowH 53 2 vd (gAll l).1.ds.length ((gAll l).1.ds.flatMap diV) hd ∧ (∀ p ∈ ht ++ hd, W.heap.size ≤ p.1) ∧ Owns w' (ht ++ hd) ∧ Upd W w' []) ∨
  (¬ isRe l ∧ e = .panicked faultC ∧ Upd W w' [])
theorem frozen0 {w : World} {g off : Nat} {cs : Array Value} {e : TypeId} (h : w.heap[g]? = some (.cells cs e (0, 0))) : w.frozen? ⟨g, off, none⟩ = false := frozen_at h (.inr (Nat.zero_le _))

theorem enter_AS (v : Value) : ({ tmps := #[v] ++ Array.replicate (Try.f24.ntmps - (#[v] : Array Value).size) undef, defers := [] } : Act) = AS (fun i => if i = 0 then v else undef) := by
  have hn : Try.f24.ntmps = 91 := by kernel_rfl
  rw [hn]
  unfold AS actOf
  refine congrArg (fun t => ({ tmps := t, defers := [] } : Act)) ?_
  apply Array.ext'
  rw [Array.toList_append, Array.toList_replicate]
  show [v] ++ List.replicate 90 undef = _
  rfl
theorem RdS.ofRow {α : Type} {w : World} {e : TypeId} {f : α → List Value} {k : Nat} {v : Value} {l : List α} {h : List (Nat × Obj)} (hr : RowH e k v l.length (l.flatMap f) h) (hO : Owns w h) : RdS w f k v l := by
  have hrd := hr.rd (F := []) (by rw [List.append_nil]; exact hO)
  obtain ⟨_, ⟨rfl, h0, _⟩ | ⟨g, cap, cs, rfl, _, h1, h2, _⟩⟩ := hr
  · have : l = [] := List.eq_nil_of_length_eq_zero h0
    subst this
    exact ⟨none, 0, rfl, by simp, hrd⟩
  · exact ⟨_, _, rfl, by omega, hrd⟩
theorem read_spec {W w : World} {g : Nat} {hb : List (Nat × Obj)} {l : List UInt8} (hI : RI W [] g hb l 0 w) : Calls Try.prog 24 #[.pointer (some ⟨g, 0, none⟩)] w (ReadsR W l) := by
  refine calls_of_wp Try.func24 rfl ?_
  let s0 : Nat → Value := fun i => if i = 0 then .pointer (some ⟨g, 0, none⟩) else undef
  rw [enter_AS]
  apply wp_seq
  -- the result's variable
  refine piece_wp (read_p0_eq (std Try.prog) s0 w (fun fr w' => ∃ (s : Nat → Value) (gA : Nat), fr = ((List.range 91).map fun i => .val (s i)) ∧ s 0 = .pointer (some ⟨g, 0, none⟩) ∧ s 2 = .pointer (some ⟨gA, 0, none⟩) ∧ W.heap.size ≤ gA ∧ RI W [(gA, reO re0 nilS nilS)] g hb l 0 w')) ?_ ?_
  · unfold read_p0_x
    refine st_alloc ze_re (Upd.refl w []) (Owns.nil w) ?_
    intro gA w1 hU1 hO1 hA
    have hI1 := hI.push (p := (gA, reO re0 nilS nilS)) hU1 (hO1.at_ 0 rfl) hA
    exact ⟨_, gA, toS rfl rfl, rfl, rfl, Nat.le_trans hI.mid.size hA, hI1⟩
  rintro fr w1 ⟨s1, gA, rfl, f0, f2, hA, hI1⟩
  show Code.wp _ _ _ (AS s1) w1
  apply wp_seq
  -- the head
  refine piece_wp (read_p1_eq (std Try.prog) s1 w1 _) (p1_walk f0 f2 hA hI1) ?_
  rintro fr w2 ⟨gB, ⟨s2, rfl, hf2⟩, hR2⟩
  show Code.wp _ _ _ (AS s2) w2
  apply wp_seq
  -- was there a head?
  obtain ⟨vt, vd, ht, hd, r1, r2, r3, hA, hB, hI2⟩ := hR2
  apply wp_region
  refine wpA_val (w' := w2) (v := .pointer (some ⟨g, 0, none⟩)) rfl rfl rfl (by show Sem.run Try.prog (pure (Next.value (s2 0))) w2 = _; rw [hf2.1]; rfl) ?_
  refine wpA_call (f := 33) (args := #[.pointer (some ⟨g, 0, none⟩)]) (w' := w2) rfl rfl rfl (by kernel_rfl) (rErr_spec hI2) ?_
  rintro _ w3 ⟨rfl, rfl⟩
  refine wpA_val (w' := w3) (v := .bool (decide ((((gHead (l, 0)).2.2 : Nat) : Int) = 0))) rfl rfl rfl r_eql ?_
  by_cases h0 : (gHead (l, 0)).2.2 = 0
  case neg =>
    have hb0 : decide ((((gHead (l, 0)).2.2 : Nat) : Int) = 0) = false := by simpa using h0
    rw [hb0]
    refine wpO_dies (f := 57) (args := #[.bool false]) (w' := w3) rfl rfl (by kernel_rfl) (must_bad w3) ?_
    rintro c w4 ⟨rfl, rfl⟩
    exact ⟨rfl, .inr ⟨gHead_bad h0, rfl, hI2.mid⟩⟩
  have hb1 : decide ((((gHead (l, 0)).2.2 : Nat) : Int) = 0) = true := by simpa using h0
  rw [hb1]
  refine wpA_call (f := 57) (args := #[.bool true]) (w' := w3) rfl rfl rfl (by kernel_rfl) (must_ok w3) ?_
  rintro um w4 rfl
  generalize hs3 : upd (upd (upd (upd s2 15 (Value.pointer (some { block := g, off := 0 }))) 16 (.int .i64 ((gHead (l, 0)).2.2 : Nat))) 17 (.bool true)) 18 um = s3
  have hf3 : Fr3 g gA gB s3 := by subst hs3; exact hf2
  show Code.wp _ _ _ (AS s3) w4
  clear hs3 hb1
  -- the pieces
  apply wp_seq
  refine piece_F (read_m1_eq (std Try.prog) s3 w4 _) (m1_walk hf3 ⟨vt, vd, ht, hd, r1, r2, r3, hA, hB, hI2⟩) ?_
  intro s4 w5 hf4 hR
  show Code.wp _ _ _ (AS s4) w5
  apply wp_seq
  refine piece_F (read_m2_eq (std Try.prog) s4 w5 _) (m2_walk hf4 hR) ?_
  intro s5 w6 hf5 hR
  show Code.wp _ _ _ (AS s5) w6
  apply wp_seq
  have hnil : (gUndo (gChg (gHead (l, 0)).1 (gHead (l, 0)).2).1 (gChg (gHead (l, 0)).1 (gHead (l, 0)).2).2).1.ts = [] ∧ (gUndo (gChg (gHead (l, 0)).1 (gHead (l, 0)).2).1 (gChg (gHead (l, 0)).1 (gHead (l, 0)).2).2).1.ds = [] := by
    unfold gUndo gChg
    split <;> split <;> exact ⟨rfl, rfl⟩
  refine piece_F (read_m3_eq (std Try.prog) s5 w6 _) (m3_walk hnil hf5 hR) ?_
  intro s6 w7 hf6 hR
  show Code.wp _ _ _ (AS s6) w7
  obtain ⟨vt, vd, ht, hd, r1, r2, r3, hA, hB, hI⟩ := hR
  have hI : RI W ((gB, reO (gAll l).1 vt vd) :: (gA, reO re0 nilS nilS) :: (ht ++ hd)) g hb (gAll l).2.1 (gAll l).2.2 w7 := hI
  apply wp_seq
  apply wp_region
  refine wpA_val (w' := w7) (v := .pointer (some ⟨g, 0, none⟩)) rfl rfl rfl (by show Sem.run Try.prog (pure (Next.value (s6 0))) w7 = _; rw [hf6.1]; rfl) ?_
  refine wpA_call (f := 59) (args := #[.pointer (some ⟨g, 0, none⟩)]) (w' := w7) rfl rfl rfl (by kernel_rfl) (rEnd_spec hI) ?_
  rintro _ w8 ⟨rfl, rfl⟩
  refine wpA_val (w' := w8) (v := .bool (decide (((endR (gAll l).2.1 (gAll l).2.2 : Nat) : Int) = 0))) rfl rfl rfl r_eql ?_
  have hO := RI.kept hI
  have hOr : Owns w8 (ht ++ hd) := hO.sub (.cons _ (.cons _ (List.Sublist.refl _)))
  by_cases he : endR (gAll l).2.1 (gAll l).2.2 = 0
  case neg =>
    have hb0 : decide (((endR (gAll l).2.1 (gAll l).2.2 : Nat) : Int) = 0) = false := by simpa using he
    rw [hb0]
    refine wpA_val (w' := w8) (v := .bool false) rfl rfl rfl rfl ?_
    refine wpA_not rfl rfl rfl ?_
    refine wpA_not rfl rfl rfl ?_
    refine wpA_not rfl rfl rfl ?_
    refine wpA_val (w' := w8) (v := .bool false) rfl rfl rfl (by kernel_rfl) ?_
    refine wpO_dies (f := 57) (args := #[.bool false]) (w' := w8) rfl rfl (by kernel_rfl) (must_bad w8) ?_
    rintro c w9 ⟨rfl, rfl⟩
    exact ⟨rfl, .inr ⟨fun h => he h.1, rfl, hI.mid⟩⟩
  have hb1 : decide (((endR (gAll l).2.1 (gAll l).2.2 : Nat) : Int) = 0) = true := by simpa using he
  rw [hb1]
  refine wpA_val (w' := w8) (v := .bool true) rfl rfl rfl rfl ?_
  refine wpA_val (w' := w8) (v := .agg (reV (gAll l).1 vt vd).toArray) rfl rfl rfl (by
    show (sLoad 33 (s6 3)).run Try.prog w8 = _
    rw [hf6.2.2]; exact run_re (hO.at_ 0 rfl)) ?_
  have hre : RdRe w8 (.agg (reV (gAll l).1 vt vd).toArray) (gAll l).1 := by
    refine ⟨vt, vd, rfl, ?_, ?_⟩
    · exact RdS.ofRow r1 (hOr.sub (List.sublist_append_left _ _))
    · exact RdS.ofRow r2 (hOr.sub (List.sublist_append_right _ _))
  refine wpA_call (f := 16) (args := #[.agg (reV (gAll l).1 vt vd).toArray]) (w' := w8) rfl rfl rfl (by kernel_rfl) (Check_spec w8 _ _ hre) ?_
  rintro _ w9 ⟨rfl, hU9⟩
  refine wpA_val (w' := w9) (v := .bool (decide (((okN (okP (gAll l).1) : Nat) : Int) = 0))) rfl rfl rfl r_eql ?_
  have hO9 := hO.ext hU9
  have hOr9 := hOr.ext hU9
  have hU9 := hI.mid.trans hU9
  by_cases hk : okP (gAll l).1
  case neg =>
    have hb2 : decide (((okN (okP (gAll l).1) : Nat) : Int) = 0) = false := by unfold okN; rw [if_neg hk]; rfl
    rw [hb2]
    refine wpA_val (w' := w9) (v := .bool false) rfl rfl rfl (by kernel_rfl) ?_
    refine wpO_dies (f := 57) (args := #[.bool false]) (w' := w9) rfl rfl (by kernel_rfl) (must_bad w9) ?_
    rintro c w10 ⟨rfl, rfl⟩
    exact ⟨rfl, .inr ⟨fun h => hk h.2, rfl, hU9⟩⟩
  have hb2 : decide (((okN (okP (gAll l).1) : Nat) : Int) = 0) = true := by unfold okN; rw [if_pos hk]; rfl
  rw [hb2]
  refine wpA_val (w' := w9) (v := .bool true) rfl rfl rfl (by kernel_rfl) ?_
  refine wpA_call (f := 57) (args := #[.bool true]) (w' := w9) rfl rfl rfl (by kernel_rfl) (must_ok w9) ?_
  rintro um w10 rfl
  generalize hs7 : upd _ 89 um = s7
  have hf7 : Fr3 g gA gB s7 := by subst hs7; exact hf6
  show Code.wp _ _ _ (AS s7) w10
  apply wp_seq
  apply wp_region
  refine wpA_val (w' := w10) (v := .agg (reV (gAll l).1 vt vd).toArray) rfl rfl rfl (by
    show (sLoad 33 (s7 3)).run Try.prog w10 = _
    rw [hf7.2.2]; exact run_re (hO9.at_ 0 rfl)) ?_
  have hst := run_storeN (P := Try.prog) (w := w10) (t := 33) (g := gA) (off := 0) (vs := reV (gAll l).1 vt vd) (by rw [sz33]; rfl) (hO9.at_ 1 rfl) (by simp [reV]) (reV_one _ (RowH.one r1).1 (RowH.one r2).1)
  refine wpA_skip rfl rfl rfl (by
    show (sStore 33 (s7 2) (.agg (reV (gAll l).1 vt vd).toArray)).run Try.prog w10 = _
    rw [hf7.2.1]; exact hst) ?_
  have hU10 := hU9.then_ (Upd.setRow w10 gA (List.take 0 (reV re0 nilS nilS).toArray.toList ++ reV (gAll l).1 vt vd ++ List.drop (0 + (reV (gAll l).1 vt vd).length) (reV re0 nilS nilS).toArray.toList).toArray) fun x hx => by simp at hx; subst hx; exact .inr hA
  have hO10 := hO9.setRow 1 (g := gA) rfl (List.take 0 (reV re0 nilS nilS).toArray.toList ++ reV (gAll l).1 vt vd ++ List.drop (0 + (reV (gAll l).1 vt vd).length) (reV re0 nilS nilS).toArray.toList).toArray
  have hO10 : Owns _ ((gB, reO (gAll l).1 vt vd) :: (gA, reO (gAll l).1 vt vd) :: (ht ++ hd)) := hO10
  generalize hs8 : upd s7 90 _ = s8
  have hf8 : Fr3 g gA gB s8 := by subst hs8; exact hf7
  apply wp_ret
  refine ⟨rfl, ?_⟩
  obtain ⟨v, hv, hx⟩ := results_of (P := Try.prog) (fn := Try.f24) (Q := fun v w' => v = .agg (reV (gAll l).1 vt vd).toArray) (a := AS s8) (show resV Try.prog (fun v w' => v = .agg (reV (gAll l).1 vt vd).toArray) (AS s8) _ [.cell 2 33] [] from by
    show LoadR Try.prog 33 (s8 2) _ _
    rw [hf8.2.1]
    exact st_loadR (run_loadVarN (cs := reV (gAll l).1 vt vd) ag33 (by rw [sz33]; rfl) (cells_read (hO10.at_ 1 rfl))) rfl)
  refine ⟨v, hv, .inl ⟨⟨he, hk⟩, vt, vd, ht, hd, ?_, r1, r2, r3, hO10.sub (.cons _ (.cons _ (List.Sublist.refl _))), hU10⟩⟩
  rw [hx]
end Go.Proofs.Ytconmaojfkmlnaa.Rec
