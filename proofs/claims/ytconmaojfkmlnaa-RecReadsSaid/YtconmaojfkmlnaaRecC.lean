/- May a record be? The code's answer and the document's. -/
import Derived.Test.YtconmaojfkmlnaaRecB
namespace Go.Proofs.Ytconmaojfkmlnaa.Rec
open Go Go.Proofs.Ytconmaojfkmlnaa Xf Go.RowKit
set_option linter.unusedVariables false
set_option linter.unusedSimpArgs false
set_option maxRecDepth 100000

theorem st_join {P : Program} {k : (Nat → Value) → List Value → World → Prop} {b : (List Value → World → Prop) → Prop} (R : List Value → World → Prop) (hb : ∀ j : List Value → World → Prop, (∀ vs w, R vs w → j vs w) → b j) (hk : ∀ dv vs w, R vs w → k dv vs w) : (std P).join k b := by
  rw [join_std]; exact hb _ fun vs w h dv => hk dv vs w h

theorem Rows_spec (w : World) (v : Value) (r : Re) (h : RdRe w v r) : CallsR Try.prog 64 #[v] w fun u w' => u = .bool (decide (tabP r)) ∧ Upd w w' [] := by
  obtain ⟨vt, vd, rfl, ⟨At', ct, rfl, hmt, ht⟩, ⟨Ad, cd, rfl, hmd, hd⟩⟩ := h
  apply flotillaref05_Rows_sound
  unfold flotillaref05_Rows_x
  refine st_box (Upd.refl w []) (Owns.nil w) ?_
  intro g w1 hU1 hO1 hg
  have hO1 : Owns w1 [(g, reO r (.slice At' r.ts.length ct) (.slice Ad r.ds.length cd))] := hO1
  obtain ⟨c0, c1, c2, c3, c4, c5, c6, c7, c8, c9, c10, c11⟩ := At.of (hO1.at_ 0 rfl)
  simp (disch := first | assumption | omega) only [PX, BX, LX, add_mk, Nat.reduceAdd]
  refine ⟨fun h => ⟨bf fun hp => by have := hp.1; omega, hU1⟩, fun hl1 => ⟨fun h => ⟨bf fun hp => by have := hp.2.1; omega, hU1⟩, fun hl2 => ?_⟩⟩
  clear c0 c1 c2 c3 c4 c5 c6 c7 c8 c9 c10 c11
  refine st_loop (fun vs w' => ∃ i : Nat, i ≤ r.ts.length ∧ vs.getD 0 undef = .int .i64 i ∧ Upd w w' [] ∧ Owns w' [(g, reO r (.slice At' r.ts.length ct) (.slice Ad r.ds.length cd))] ∧ upP txP Tx.id i r.ts) (fun vs _ => r.ts.length - (intOf (vs.getD 0 undef)).toNat) ⟨0, by omega, rfl, hU1, hO1, fun i hi => by omega⟩ ?_
  clear hU1 hO1
  rintro dv vs w2 - ⟨i, hi, e0, hU2, hO2, hup⟩
  have c10 : w2.cell? ⟨g, 10, none⟩ = some (.slice At' r.ts.length ct) := cell_at (hO2.at_ 0 rfl)
  simp (disch := first | assumption | omega) only [e0, PX, BX, LX, add_mk, Nat.reduceAdd]
  refine ⟨fun hlt => ?_, fun hge => ?_⟩
  · have hi' : i < r.ts.length := by omega
    obtain ⟨a, rfl, hc⟩ := row_at (f := txV) (k := 3) (fun _ => rfl) (by omega) ht hi'
    simp (disch := omega) only [PX]
    rw [step_run (run_tx (hc w2 hU2))]
    refine st_alloc ze51 hU2 hO2 ?_
    intro g3 w3 hU3 hO3 hg3
    refine st_tx hU3 hO3 0 rfl hg3 ?_
    intro w4 hU4 hO4
    clear hU3 hO3 hU2 hO2 c10
    let H := [(g3, txO r.ts[i]), (g, reO r (.slice (some a) r.ts.length ct) (.slice Ad r.ds.length cd))]
    have hO4 : Owns w4 H := hO4
    have hS : SU w H w4.drew := SU.drew hU4 hO4
    have hne : ∃ w', SU w H w' := ⟨_, hS⟩
    have s0 : w4.cell? ⟨g3, 0, none⟩ = some (.int .i64 r.ts[i].id) := cell_at (hO4.at_ 0 rfl)
    have s1 : w4.cell? ⟨g3, 1, none⟩ = some (.int .i64 r.ts[i].st) := cell_at (hO4.at_ 0 rfl)
    have s2 : w4.cell? ⟨g3, 2, none⟩ = some (.int .u64 (r.ts[i].last : Nat)) := cell_at (hO4.at_ 0 rfl)
    simp (disch := first | assumption | omega) only [PX, BX, LX, add_mk, Nat.reduceAdd]
    have t0 : ∀ w', SU w H w' → w'.cell? ⟨g3, 0, none⟩ = some (.int .i64 r.ts[i].id) := fun w' h => cell_at (h.2.at_ 0 rfl)
    have d10 : ∀ w', SU w H w' → w'.cell? ⟨g, 10, none⟩ = some (.slice (some a) r.ts.length ct) := fun w' h => cell_at (h.2.at_ 1 rfl)
    have hn := upP_succ (ok := txP) (key := Tx.id) hi'
    have bad : ¬ (upP txP Tx.id (i + 1) r.ts) → ¬ tabP r := fun h hp => h (upP_of hp.2.2.1 (by omega))
    have go : upP txP Tx.id (i + 1) r.ts → flotillaref05_Rows_k5 (std Try.prog) vs (fun vs' w' => (∃ i : Nat, i ≤ r.ts.length ∧ vs'.getD 0 undef = .int .i64 i ∧ Upd w w' [] ∧ Owns w' [(g, reO r (.slice (some a) r.ts.length ct) (.slice Ad r.ds.length cd))] ∧ upP txP Tx.id i r.ts) ∧ r.ts.length - (intOf (vs'.getD 0 undef)).toNat < r.ts.length - (intOf (Value.int .i64 (i : Nat))).toNat) w4.drew fun u w' => u = .bool (decide (tabP r)) ∧ Upd w w' [] := by
      intro hup'
      unfold flotillaref05_Rows_k5
      simp (disch := omega) only [e0, PX, w64]
      refine ⟨⟨i + 1, by omega, rfl, hS.1, hS.2.sub (.cons _ (List.Sublist.refl _)), hup'⟩, ?_⟩
      simp only [List.getD_cons_zero, intOf]; omega
    have badQ : ¬ (upP txP Tx.id (i + 1) r.ts) → flotillaref05_Rows_k6 (std Try.prog) w4 fun u w' => u = .bool (decide (tabP r)) ∧ Upd w w' [] := fun h => ⟨bf (bad h), hU4⟩
    refine ⟨fun h => badQ fun hp => ?_, fun h1 => ⟨fun h => badQ fun hp => ?_, fun h2 => ⟨fun h => badQ fun hp => ?_, fun h3 => ⟨fun h => badQ fun hp => ?_, fun h4 => ?_⟩⟩⟩⟩
    · have := (hn.1 hp).2.1.1.1; omega
    · have := (hn.1 hp).2.1.1.2; omega
    · have := (hn.1 hp).2.1.2.1; omega
    · have := (hn.1 hp).2.1.2.2.1; omega
    refine st_call (Numbered_spec _ _) ?_
    rintro _ w5 ⟨rfl, rfl⟩
    simp (disch := first | assumption | omega) only [PX, BX]
    refine ⟨fun h4 => ?_, fun h => ⟨bf (bad fun hp => h (hn.1 hp).2.1.2.2.2), hU4⟩⟩
    refine st_draw (SU w H) hS ?_
    simp (disch := first | assumption | omega) only [SX, SLX, BX, add_mk, Nat.reduceAdd, w64]
    have okt : txP r.ts[i] := ⟨⟨by omega, by omega⟩, by omega, by omega, h4⟩
    refine ⟨fun h5 => ?_, fun h5 => go (hn.2 ⟨hup, okt, fun _ => by omega⟩)⟩
    obtain ⟨a', ha', hc'⟩ := row_at (f := txV) (k := 3) (fun _ => rfl) (by omega) ht (i := i - 1) (by omega)
    injection ha' with ha'
    subst ha'
    rw [show ((i : Nat) : Int) - 1 = ((i - 1 : Nat) : Int) by omega]
    have dp : ∀ w', SU w H w' → w'.cell? (a.add ((i - 1) * 3)) = some (.int .i64 r.ts[i - 1].id) := fun w' h => hc' w' h.1 0 _ rfl
    simp (disch := first | assumption | omega) only [SX, SLX, BX, add_mk, Nat.reduceAdd]
    refine ⟨fun h => ⟨bf (bad fun hp => ?_), hS.1⟩, fun h => go (hn.2 ⟨hup, okt, fun _ => by omega⟩)⟩
    have := (hn.1 hp).2.2 (by omega); omega
  · obtain rfl : i = r.ts.length := by omega
    unfold flotillaref05_Rows_k1
    clear e0 c10
    have htx := hup
    clear hup
    refine st_loop (fun vs w' => ∃ i : Nat, i ≤ r.ds.length ∧ vs.getD 0 undef = .int .i64 i ∧ Upd w w' [] ∧ Owns w' [(g, reO r (.slice At' r.ts.length ct) (.slice Ad r.ds.length cd))] ∧ upP diP Di.page i r.ds) (fun vs _ => r.ds.length - (intOf (vs.getD 0 undef)).toNat) ⟨0, by omega, rfl, hU2, hO2, fun i hi => by omega⟩ ?_
    clear hU2 hO2 dv vs
    rintro dv vs w2 - ⟨i, hi, e0, hU2, hO2, hup⟩
    have c11 : w2.cell? ⟨g, 11, none⟩ = some (.slice Ad r.ds.length cd) := cell_at (hO2.at_ 0 rfl)
    simp (disch := first | assumption | omega) only [e0, PX, BX, LX, add_mk, Nat.reduceAdd]
    refine ⟨fun hlt => ?_, fun hge => ?_⟩
    · have hi' : i < r.ds.length := by omega
      obtain ⟨a, rfl, hc⟩ := row_at (f := diV) (k := 2) (fun _ => rfl) (by omega) hd hi'
      simp (disch := omega) only [PX]
      rw [step_run (run_di (hc w2 hU2))]
      refine st_alloc ze53 hU2 hO2 ?_
      intro g3 w3 hU3 hO3 hg3
      refine st_di hU3 hO3 0 rfl hg3 ?_
      intro w4 hU4 hO4
      clear hU3 hO3 hU2 hO2 c11
      let H := [(g3, diO r.ds[i]), (g, reO r (.slice At' r.ts.length ct) (.slice (some a) r.ds.length cd))]
      have hO4 : Owns w4 H := hO4
      have hS : SU w H w4.drew := SU.drew hU4 hO4
      have hne : ∃ w', SU w H w' := ⟨_, hS⟩
      have s0 : w4.cell? ⟨g3, 0, none⟩ = some (.int .i64 r.ds[i].page) := cell_at (hO4.at_ 0 rfl)
      have s1 : w4.cell? ⟨g3, 1, none⟩ = some (.int .u64 (r.ds[i].rc : Nat)) := cell_at (hO4.at_ 0 rfl)
      simp (disch := first | assumption | omega) only [PX, BX, LX, add_mk, Nat.reduceAdd]
      have t0 : ∀ w', SU w H w' → w'.cell? ⟨g3, 0, none⟩ = some (.int .i64 r.ds[i].page) := fun w' h => cell_at (h.2.at_ 0 rfl)
      have d10 : ∀ w', SU w H w' → w'.cell? ⟨g, 11, none⟩ = some (.slice (some a) r.ds.length cd) := fun w' h => cell_at (h.2.at_ 1 rfl)
      have hn := upP_succ (ok := diP) (key := Di.page) hi'
      have bad : ¬ (upP diP Di.page (i + 1) r.ds) → ¬ tabP r := fun h hp => h (upP_of hp.2.2.2 (by omega))
      have go : upP diP Di.page (i + 1) r.ds → flotillaref05_Rows_k3 (std Try.prog) vs (fun vs' w' => (∃ i : Nat, i ≤ r.ds.length ∧ vs'.getD 0 undef = .int .i64 i ∧ Upd w w' [] ∧ Owns w' [(g, reO r (.slice At' r.ts.length ct) (.slice (some a) r.ds.length cd))] ∧ upP diP Di.page i r.ds) ∧ r.ds.length - (intOf (vs'.getD 0 undef)).toNat < r.ds.length - (intOf (Value.int .i64 (i : Nat))).toNat) w4.drew fun u w' => u = .bool (decide (tabP r)) ∧ Upd w w' [] := by
        intro hup'
        unfold flotillaref05_Rows_k3
        simp (disch := omega) only [e0, PX, w64]
        refine ⟨⟨i + 1, by omega, rfl, hS.1, hS.2.sub (.cons _ (List.Sublist.refl _)), hup'⟩, ?_⟩
        simp only [List.getD_cons_zero, intOf]; omega
      have badQ : ¬ (upP diP Di.page (i + 1) r.ds) → flotillaref05_Rows_k4 (std Try.prog) w4 fun u w' => u = .bool (decide (tabP r)) ∧ Upd w w' [] := fun h => ⟨bf (bad h), hU4⟩
      refine ⟨fun h => badQ fun hp => ?_, fun h1 => ⟨fun h => badQ fun hp => ?_, fun h2 => ?_⟩⟩
      · have := (hn.1 hp).2.1.1.1; omega
      · have := (hn.1 hp).2.1.1.2; omega
      refine st_call (Numbered_spec _ _) ?_
      rintro _ w5 ⟨rfl, rfl⟩
      simp (disch := first | assumption | omega) only [PX, BX]
      refine ⟨fun h4 => ?_, fun h => ⟨bf (bad fun hp => h (hn.1 hp).2.1.2), hU4⟩⟩
      refine st_draw (SU w H) hS ?_
      simp (disch := first | assumption | omega) only [SX, SLX, BX, add_mk, Nat.reduceAdd, w64]
      have okt : diP r.ds[i] := ⟨⟨by omega, by omega⟩, h4⟩
      refine ⟨fun h5 => ?_, fun h5 => go (hn.2 ⟨hup, okt, fun _ => by omega⟩)⟩
      obtain ⟨a', ha', hc'⟩ := row_at (f := diV) (k := 2) (fun _ => rfl) (by omega) hd (i := i - 1) (by omega)
      injection ha' with ha'
      subst ha'
      rw [show ((i : Nat) : Int) - 1 = ((i - 1 : Nat) : Int) by omega]
      have dp : ∀ w', SU w H w' → w'.cell? (a.add ((i - 1) * 2)) = some (.int .i64 r.ds[i - 1].page) := fun w' h => hc' w' h.1 0 _ rfl
      simp (disch := first | assumption | omega) only [SX, SLX, BX, add_mk, Nat.reduceAdd]
      refine ⟨fun h => ⟨bf (bad fun hp => ?_), hS.1⟩, fun h => go (hn.2 ⟨hup, okt, fun _ => by omega⟩)⟩
      have := (hn.1 hp).2.2 (by omega); omega
    · obtain rfl : i = r.ds.length := by omega
      unfold flotillaref05_Rows_k2
      exact ⟨bt ⟨by omega, by omega, htx, hup⟩, hU2⟩
end Go.Proofs.Ytconmaojfkmlnaa.Rec
