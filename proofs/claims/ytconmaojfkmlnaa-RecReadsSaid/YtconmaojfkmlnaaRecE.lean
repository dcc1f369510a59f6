/- Which records are the same. -/
import Derived.Test.YtconmaojfkmlnaaRecD
namespace Go.Proofs.Ytconmaojfkmlnaa.Rec
open Go Go.Proofs.Ytconmaojfkmlnaa Xf Go.RowKit
set_option linter.unusedVariables false
set_option linter.unusedSimpArgs false
set_option maxRecDepth 100000
theorem Same_spec (w : World) (va vb : Value) (a b : Re) (ha : RdRe w va a) (hb : RdRe w vb b) : CallsR Try.prog 20 #[va, vb] w fun u w' => u = .bool (decide (a = b)) ∧ Upd w w' [] := by
  obtain ⟨vt, vd, rfl, ⟨A1, n1, rfl, hm1, ht1⟩, ⟨A2, n2, rfl, hm2, hd1⟩⟩ := ha
  obtain ⟨vt, vd, rfl, ⟨B1, m1, rfl, hk1, ht2⟩, ⟨B2, m2, rfl, hk2, hd2⟩⟩ := hb
  unfold maxLen at hm1 hm2
  apply rec_Same_sound
  unfold rec_Same_x rec_Same_k1
  refine st_box (Upd.refl w []) (Owns.nil w) ?_
  intro g w1 hU1 hO1 hg
  refine st_box hU1 hO1 ?_
  intro g2 w2 hU2 hO2 hg2
  clear hU1 hO1
  let H := [(g2, reO b (.slice B1 b.ts.length m1) (.slice B2 b.ds.length m2)), (g, reO a (.slice A1 a.ts.length n1) (.slice A2 a.ds.length n2))]
  have hO2 : Owns w2 H := hO2
  have hN : ∀ w', Upd w w' [] → a ≠ b → Value.bool false = .bool (decide (a = b)) ∧ Upd w w' [] := fun w' hU h => ⟨bf h, hU⟩
  obtain ⟨c0, c1, c2, c3, c4, c5, c6, c7, c8, c9, c10, c11⟩ := At.of (hO2.at_ 1 rfl)
  obtain ⟨e0, e1, e2, e3, e4, e5, e6, e7, e8, e9, e10, e11⟩ := At.of (hO2.at_ 0 rfl)
  simp (disch := first | assumption | omega) only [PX, BX, LX, add_mk, Nat.reduceAdd]
  refine ⟨fun h => hN _ hU2 (by grind), fun h1 => ⟨fun h => hN _ hU2 (by grind), fun h2 => ⟨fun h => hN _ hU2 (by grind), fun h3 => ⟨fun h => hN _ hU2 (by grind), fun h4 => ⟨fun h => hN _ hU2 (by grind), fun h5 => ⟨fun h => hN _ hU2 (by grind), fun h6 => ?_⟩⟩⟩⟩⟩⟩
  rw [step_run (run_ac (hO2.at_ 1 rfl)), step_run (run_ac (hO2.at_ 0 rfl)), step_run ((ac_eq _ _ _ _ _ _ _ _ _).2 _ _)]
  simp (disch := first | assumption | omega) only [PX, BX, LX, add_mk, Nat.reduceAdd]
  refine ⟨fun h7 => ⟨fun h => hN _ hU2 (by grind), fun h8 => ⟨fun h => hN _ hU2 (by grind), fun h9 => ?_⟩⟩, fun h => hN _ hU2 (by grind)⟩
  clear c0 c1 c2 c3 c4 c5 c6 c7 c8 c9 c10 c11 e0 e1 e2 e3 e4 e5 e6 e7 e8 e9 e10 e11
  have h8 : a.ts.length = b.ts.length := by omega
  have h9 : a.ds.length = b.ds.length := by omega
  refine st_loop (fun vs w' => ∃ i : Nat, i ≤ a.ts.length ∧ vs.getD 0 undef = .int .i64 i ∧ Upd w w' [] ∧ Owns w' H ∧ ∀ j, j < i → a.ts[j]? = b.ts[j]?) (fun vs _ => a.ts.length - (intOf (vs.getD 0 undef)).toNat) ⟨0, by omega, rfl, hU2, hO2, fun j hj => by omega⟩ ?_
  clear hU2 hO2
  rintro dv vs w2 - ⟨i, hi, e0, hU2, hO2, hall⟩
  have c10 : w2.cell? ⟨g, 10, none⟩ = some (.slice A1 a.ts.length n1) := cell_at (hO2.at_ 1 rfl)
  simp (disch := first | assumption | omega) only [e0, PX, BX, LX, add_mk, Nat.reduceAdd]
  refine ⟨fun hlt => ?_, fun hge => ?_⟩
  · have hi1 : i < a.ts.length := by omega
    have hi2 : i < b.ts.length := by omega
    obtain ⟨x, rfl, hx⟩ := row_at (f := txV) (k := 3) (fun _ => rfl) (by omega) ht1 hi1
    obtain ⟨y, rfl, hy⟩ := row_at (f := txV) (k := 3) (fun _ => rfl) (by omega) ht2 hi2
    have hS : SU w H w2.drew := SU.drew hU2 hO2
    have hne : ∃ w', SU w H w' := ⟨_, hS⟩
    refine st_draw (SU w H) hS ?_
    have d1 : ∀ w', SU w H w' → w'.cell? ⟨g, 10, none⟩ = some (.slice (some x) a.ts.length n1) := fun w' h => cell_at (h.2.at_ 1 rfl)
    have d2 : ∀ w', SU w H w' → w'.cell? ⟨g2, 10, none⟩ = some (.slice (some y) b.ts.length m1) := fun w' h => cell_at (h.2.at_ 0 rfl)
    simp (disch := first | assumption | omega) only [SX, SLX, add_mk, Nat.reduceAdd]
    rw [stepS_run hne fun w' h => run_tx (hx w' h.1), stepS_run hne fun w' h => run_tx (hy w' h.1), stepS_run hne fun w' h => (tx_eq _ _ w').2 _ _]
    simp (disch := first | assumption | omega) only [PX, BX, w64]
    refine ⟨fun he => ⟨⟨i + 1, by omega, rfl, hS.1, hS.2, fun j hj => ?_⟩, ?_⟩, fun h => hN _ hS.1 ?_⟩
    · by_cases hji : j < i
      · exact hall j hji
      · obtain rfl : j = i := by omega
        rw [List.getElem?_eq_getElem hi1, List.getElem?_eq_getElem hi2, he]
    · simp only [List.getD_cons_zero, intOf]; omega
    · rintro rfl; exact h rfl
  · obtain rfl : i = a.ts.length := by omega
    have ets : a.ts = b.ts := by
      apply List.ext_getElem?
      intro j
      by_cases hj : j < a.ts.length
      · exact hall j hj
      · rw [List.getElem?_eq_none (by omega), List.getElem?_eq_none (by omega)]
    unfold rec_Same_k2 rec_Same_k3
    clear c10 e0 hall
    have c11 : w2.cell? ⟨g, 11, none⟩ = some (.slice A2 a.ds.length n2) := cell_at (hO2.at_ 1 rfl)
    simp (disch := first | assumption | omega) only [PX, BX, LX, add_mk, Nat.reduceAdd]
    clear c11
    refine st_loop (fun vs w' => ∃ i : Nat, i ≤ a.ds.length ∧ vs.getD 0 undef = .int .i64 i ∧ Upd w w' [] ∧ Owns w' H ∧ ∀ j, j < i → a.ds[j]? = b.ds[j]?) (fun vs _ => a.ds.length - (intOf (vs.getD 0 undef)).toNat) ⟨0, by omega, rfl, hU2, hO2, fun j hj => by omega⟩ ?_
    clear hU2 hO2 dv vs
    rintro dv vs w2 - ⟨i, hi, e0, hU2, hO2, hall⟩
    have c11 : w2.cell? ⟨g, 11, none⟩ = some (.slice A2 a.ds.length n2) := cell_at (hO2.at_ 1 rfl)
    simp (disch := first | assumption | omega) only [e0, PX, BX, LX, add_mk, Nat.reduceAdd]
    refine ⟨fun hlt => ?_, fun hge => ?_⟩
    · have hi1 : i < a.ds.length := by omega
      have hi2 : i < b.ds.length := by omega
      obtain ⟨x, rfl, hx⟩ := row_at (f := diV) (k := 2) (fun _ => rfl) (by omega) hd1 hi1
      obtain ⟨y, rfl, hy⟩ := row_at (f := diV) (k := 2) (fun _ => rfl) (by omega) hd2 hi2
      have hS : SU w H w2.drew := SU.drew hU2 hO2
      have hne : ∃ w', SU w H w' := ⟨_, hS⟩
      refine st_draw (SU w H) hS ?_
      have d1 : ∀ w', SU w H w' → w'.cell? ⟨g, 11, none⟩ = some (.slice (some x) a.ds.length n2) := fun w' h => cell_at (h.2.at_ 1 rfl)
      have d2 : ∀ w', SU w H w' → w'.cell? ⟨g2, 11, none⟩ = some (.slice (some y) b.ds.length m2) := fun w' h => cell_at (h.2.at_ 0 rfl)
      simp (disch := first | assumption | omega) only [SX, SLX, add_mk, Nat.reduceAdd]
      rw [stepS_run hne fun w' h => run_di (hx w' h.1), stepS_run hne fun w' h => run_di (hy w' h.1), stepS_run hne fun w' h => (di_eq _ _ w').2 _ _]
      simp (disch := first | assumption | omega) only [PX, BX, w64]
      refine ⟨fun he => ⟨⟨i + 1, by omega, rfl, hS.1, hS.2, fun j hj => ?_⟩, ?_⟩, fun h => hN _ hS.1 ?_⟩
      · by_cases hji : j < i
        · exact hall j hji
        · obtain rfl : j = i := by omega
          rw [List.getElem?_eq_getElem hi1, List.getElem?_eq_getElem hi2, he]
      · simp only [List.getD_cons_zero, intOf]; omega
      · rintro rfl; exact h rfl
    · obtain rfl : i = a.ds.length := by omega
      have eds : a.ds = b.ds := by
        apply List.ext_getElem?
        intro j
        by_cases hj : j < a.ds.length
        · exact hall j hj
        · rw [List.getElem?_eq_none (by omega), List.getElem?_eq_none (by omega)]
      refine ⟨bt ?_, hU2⟩
      obtain ⟨a0, a1, a2, a3, a4, a5, a6, a7, a8, a9, a10, a11⟩ := a
      obtain ⟨b0, b1, b2, b3, b4, b5, b6, b7, b8, b9, b10, b11⟩ := b
      simp only at h1 h2 h3 h4 h5 h6 h7 ets eds
      simp only [Re.mk.injEq]
      grind
theorem rSame_spec (w : World) (va vb : Value) (a b : Re) (ha : RdRe w va a) (hb : RdRe w vb b) : CallsR Try.prog 14 #[va, vb] w fun u w' => u = .bool (decide (a = b)) ∧ Upd w w' [] := by
  obtain ⟨vt, vd, rfl, ⟨A1, n1, rfl, hm1, ht1⟩, ⟨A2, n2, rfl, hm2, hd1⟩⟩ := ha
  obtain ⟨vt, vd, rfl, ⟨B1, m1, rfl, hk1, ht2⟩, ⟨B2, m2, rfl, hk2, hd2⟩⟩ := hb
  unfold maxLen at hm1 hm2
  apply flotillaref05_Same_sound
  unfold flotillaref05_Same_x flotillaref05_Same_k1
  refine st_box (Upd.refl w []) (Owns.nil w) ?_
  intro g w1 hU1 hO1 hg
  refine st_box hU1 hO1 ?_
  intro g2 w2 hU2 hO2 hg2
  clear hU1 hO1
  let H := [(g2, reO b (.slice B1 b.ts.length m1) (.slice B2 b.ds.length m2)), (g, reO a (.slice A1 a.ts.length n1) (.slice A2 a.ds.length n2))]
  have hO2 : Owns w2 H := hO2
  have hN : ∀ w', Upd w w' [] → a ≠ b → Value.bool false = .bool (decide (a = b)) ∧ Upd w w' [] := fun w' hU h => ⟨bf h, hU⟩
  obtain ⟨c0, c1, c2, c3, c4, c5, c6, c7, c8, c9, c10, c11⟩ := At.of (hO2.at_ 1 rfl)
  obtain ⟨e0, e1, e2, e3, e4, e5, e6, e7, e8, e9, e10, e11⟩ := At.of (hO2.at_ 0 rfl)
  simp (disch := first | assumption | omega) only [PX, BX, LX, add_mk, Nat.reduceAdd]
  refine ⟨fun h => hN _ hU2 (by grind), fun h1 => ⟨fun h => hN _ hU2 (by grind), fun h2 => ⟨fun h => hN _ hU2 (by grind), fun h3 => ⟨fun h => hN _ hU2 (by grind), fun h4 => ⟨fun h => hN _ hU2 (by grind), fun h5 => ⟨fun h => hN _ hU2 (by grind), fun h6 => ?_⟩⟩⟩⟩⟩⟩
  rw [step_run (run_ac (hO2.at_ 1 rfl)), step_run (run_ac (hO2.at_ 0 rfl)), step_run ((ac_eq _ _ _ _ _ _ _ _ _).2 _ _)]
  simp (disch := first | assumption | omega) only [PX, BX, LX, add_mk, Nat.reduceAdd]
  refine ⟨fun h7 => ⟨fun h => hN _ hU2 (by grind), fun h8 => ⟨fun h => hN _ hU2 (by grind), fun h9 => ?_⟩⟩, fun h => hN _ hU2 (by grind)⟩
  clear c0 c1 c2 c3 c4 c5 c6 c7 c8 c9 c10 c11 e0 e1 e2 e3 e4 e5 e6 e7 e8 e9 e10 e11
  have h8 : a.ts.length = b.ts.length := by omega
  have h9 : a.ds.length = b.ds.length := by omega
  refine st_loop (fun vs w' => ∃ i : Nat, i ≤ a.ts.length ∧ vs.getD 0 undef = .int .i64 i ∧ Upd w w' [] ∧ Owns w' H ∧ ∀ j, j < i → a.ts[j]? = b.ts[j]?) (fun vs _ => a.ts.length - (intOf (vs.getD 0 undef)).toNat) ⟨0, by omega, rfl, hU2, hO2, fun j hj => by omega⟩ ?_
  clear hU2 hO2
  rintro dv vs w2 - ⟨i, hi, e0, hU2, hO2, hall⟩
  have c10 : w2.cell? ⟨g, 10, none⟩ = some (.slice A1 a.ts.length n1) := cell_at (hO2.at_ 1 rfl)
  simp (disch := first | assumption | omega) only [e0, PX, BX, LX, add_mk, Nat.reduceAdd]
  refine ⟨fun hlt => ?_, fun hge => ?_⟩
  · have hi1 : i < a.ts.length := by omega
    have hi2 : i < b.ts.length := by omega
    obtain ⟨x, rfl, hx⟩ := row_at (f := txV) (k := 3) (fun _ => rfl) (by omega) ht1 hi1
    obtain ⟨y, rfl, hy⟩ := row_at (f := txV) (k := 3) (fun _ => rfl) (by omega) ht2 hi2
    have hS : SU w H w2.drew := SU.drew hU2 hO2
    have hne : ∃ w', SU w H w' := ⟨_, hS⟩
    refine st_draw (SU w H) hS ?_
    have d1 : ∀ w', SU w H w' → w'.cell? ⟨g, 10, none⟩ = some (.slice (some x) a.ts.length n1) := fun w' h => cell_at (h.2.at_ 1 rfl)
    have d2 : ∀ w', SU w H w' → w'.cell? ⟨g2, 10, none⟩ = some (.slice (some y) b.ts.length m1) := fun w' h => cell_at (h.2.at_ 0 rfl)
    simp (disch := first | assumption | omega) only [SX, SLX, add_mk, Nat.reduceAdd]
    rw [stepS_run hne fun w' h => run_tx (hx w' h.1), stepS_run hne fun w' h => run_tx (hy w' h.1), stepS_run hne fun w' h => (tx_eq _ _ w').2 _ _]
    simp (disch := first | assumption | omega) only [PX, BX, w64]
    refine ⟨fun he => ⟨⟨i + 1, by omega, rfl, hS.1, hS.2, fun j hj => ?_⟩, ?_⟩, fun h => hN _ hS.1 ?_⟩
    · by_cases hji : j < i
      · exact hall j hji
      · obtain rfl : j = i := by omega
        rw [List.getElem?_eq_getElem hi1, List.getElem?_eq_getElem hi2, he]
    · simp only [List.getD_cons_zero, intOf]; omega
    · rintro rfl; exact h rfl
  · obtain rfl : i = a.ts.length := by omega
    have ets : a.ts = b.ts := by
      apply List.ext_getElem?
      intro j
      by_cases hj : j < a.ts.length
      · exact hall j hj
      · rw [List.getElem?_eq_none (by omega), List.getElem?_eq_none (by omega)]
    unfold flotillaref05_Same_k2 flotillaref05_Same_k3
    clear c10 e0 hall
    have c11 : w2.cell? ⟨g, 11, none⟩ = some (.slice A2 a.ds.length n2) := cell_at (hO2.at_ 1 rfl)
    clear c11
    refine st_loop (fun vs w' => ∃ i : Nat, i ≤ a.ds.length ∧ vs.getD 0 undef = .int .i64 i ∧ Upd w w' [] ∧ Owns w' H ∧ ∀ j, j < i → a.ds[j]? = b.ds[j]?) (fun vs _ => a.ds.length - (intOf (vs.getD 0 undef)).toNat) ⟨0, by omega, rfl, hU2, hO2, fun j hj => by omega⟩ ?_
    clear hU2 hO2 dv vs
    rintro dv vs w2 - ⟨i, hi, e0, hU2, hO2, hall⟩
    have c11 : w2.cell? ⟨g, 11, none⟩ = some (.slice A2 a.ds.length n2) := cell_at (hO2.at_ 1 rfl)
    simp (disch := first | assumption | omega) only [e0, PX, BX, LX, add_mk, Nat.reduceAdd]
    refine ⟨fun hlt => ?_, fun hge => ?_⟩
    · have hi1 : i < a.ds.length := by omega
      have hi2 : i < b.ds.length := by omega
      obtain ⟨x, rfl, hx⟩ := row_at (f := diV) (k := 2) (fun _ => rfl) (by omega) hd1 hi1
      obtain ⟨y, rfl, hy⟩ := row_at (f := diV) (k := 2) (fun _ => rfl) (by omega) hd2 hi2
      have hS : SU w H w2.drew := SU.drew hU2 hO2
      have hne : ∃ w', SU w H w' := ⟨_, hS⟩
      refine st_draw (SU w H) hS ?_
      have d1 : ∀ w', SU w H w' → w'.cell? ⟨g, 11, none⟩ = some (.slice (some x) a.ds.length n2) := fun w' h => cell_at (h.2.at_ 1 rfl)
      have d2 : ∀ w', SU w H w' → w'.cell? ⟨g2, 11, none⟩ = some (.slice (some y) b.ds.length m2) := fun w' h => cell_at (h.2.at_ 0 rfl)
      simp (disch := first | assumption | omega) only [SX, SLX, add_mk, Nat.reduceAdd]
      rw [stepS_run hne fun w' h => run_di (hx w' h.1), stepS_run hne fun w' h => run_di (hy w' h.1), stepS_run hne fun w' h => (di_eq _ _ w').2 _ _]
      simp (disch := first | assumption | omega) only [PX, BX, w64]
      refine ⟨fun he => ⟨⟨i + 1, by omega, rfl, hS.1, hS.2, fun j hj => ?_⟩, ?_⟩, fun h => hN _ hS.1 ?_⟩
      · by_cases hji : j < i
        · exact hall j hji
        · obtain rfl : j = i := by omega
          rw [List.getElem?_eq_getElem hi1, List.getElem?_eq_getElem hi2, he]
      · simp only [List.getD_cons_zero, intOf]; omega
      · rintro rfl; exact h rfl
    · obtain rfl : i = a.ds.length := by omega
      have eds : a.ds = b.ds := by
        apply List.ext_getElem?
        intro j
        by_cases hj : j < a.ds.length
        · exact hall j hj
        · rw [List.getElem?_eq_none (by omega), List.getElem?_eq_none (by omega)]
      refine ⟨bt ?_, hU2⟩
      obtain ⟨a0, a1, a2, a3, a4, a5, a6, a7, a8, a9, a10, a11⟩ := a
      obtain ⟨b0, b1, b2, b3, b4, b5, b6, b7, b8, b9, b10, b11⟩ := b
      simp only at h1 h2 h3 h4 h5 h6 h7 ets eds
      simp only [Re.mk.injEq]
      grind
end Go.Proofs.Ytconmaojfkmlnaa.Rec
