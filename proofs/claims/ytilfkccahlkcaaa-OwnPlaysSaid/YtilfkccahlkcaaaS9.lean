/- Orders that are read; nil books; lives. -/
import Derived.Test.YtilfkccahlkcaaaS8
namespace Go.Proofs.Ytilfkccahlkcaaa
open Go Xf Go.RowKit
set_option linter.unusedVariables false
set_option linter.unusedSimpArgs false
set_option maxRecDepth 100000

def RdO (w : World) (r : Value) (os : List Od) : Prop := Rd w 5 r os.length (os.flatMap odV)
theorem OrdR.rd {w : World} {r : Value} {os : List Od} {h F : List (Nat × Obj)} (hr : OrdR r os h) (hO : Owns w (h ++ F)) : RdO w r os := RowH.rd hr hO
theorem RdO.len {w : World} {r : Value} {os : List Od} (h : RdO w r os) : ∃ A c, r = .slice A os.length c := by
  obtain ⟨A, c, he, _⟩ := h
  exact ⟨A, c, he⟩
theorem ord_at {w : World} {r : Value} {os : List Od} (h : RdO w r os) {i : Nat} (hi : i < os.length) : ∃ a c, r = .slice (some a) os.length c ∧ ∀ j u, (odV os[i])[j]? = some u → w.cell? ((a.add (i * 5)).add j) = some u := by
  obtain ⟨A, c, rfl⟩ := h.len
  obtain ⟨a, rfl, hx⟩ := Rd.row (f := odV) (k := 5) (fun _ => rfl) (by omega) h hi
  refine ⟨a, c, rfl, fun j u hu => ?_⟩
  rw [add_add']
  have := hx w (Upd.refl w []) j u hu
  rwa [show ((i : Nat) : Int).toNat = i by omega] at this
theorem st_ldOd {w : World} {a : Addr} {o : Od} {K : Value → World → Prop} (hx : ∀ j u, (odV o)[j]? = some u → w.cell? (a.add j) = some u) (hk : K (.agg (odV o).toArray) w) : (std Try.prog).step (sLoad 46 (.pointer (some a))) w K :=
  st_loadN (cs := odV o) ag46 sz46 hx hk
theorem Bk.F {W w : World} {F : List (Nat × Obj)} {gb : Nat} {xs : List Lf} (h : Bk W F gb xs w) : Owns w F := by
  obtain ⟨vl, hl, bs, hB, _⟩ := h
  exact hB.own.sub (.trans (List.sublist_append_right _ F) (List.sublist_append_right _ _))
theorem Bk.upd {W w : World} {F : List (Nat × Obj)} {gb : Nat} {xs : List Lf} (h : Bk W F gb xs w) : Upd W w [] := by
  obtain ⟨vl, hl, bs, hB, _⟩ := h
  exact hB.upd

theorem bld1 (w : World) : (sBuild 46 [(0, .int .i64 1), (3, .int .i64 1)]).run Try.prog w = .ok (.value (.agg (odV ⟨1, 0, 0, 1, false⟩).toArray)) w := by kernel_rfl
theorem bld2 (w : World) : (sBuild 46 [(0, .int .i64 2), (2, .int .i64 1), (3, .int .i64 2)]).run Try.prog w = .ok (.value (.agg (odV ⟨2, 0, 1, 2, false⟩).toArray)) w := by kernel_rfl
theorem bld3 (w : World) : (sBuild 46 [(0, .int .i64 1), (3, .int .i64 2)]).run Try.prog w = .ok (.value (.agg (odV ⟨1, 0, 0, 2, false⟩).toArray)) w := by kernel_rfl

theorem lives_spec (w : World) : CallsR Try.prog 9 #[] w fun r w' => r = .bool true ∧ Upd w w' [] := by
  apply flotillalaw20_lives_sound
  unfold flotillalaw20_lives_x
  refine st_call (New_spec (F := []) (fl := []) (Upd.refl w []) (Owns.nil w) (fun w' _ _ => Rd.nil_ _ _) 2) ?_
  intro r w1 hr
  unfold NewR at hr
  rw [if_neg (by simp)] at hr
  obtain ⟨gb, rfl, hB⟩ := hr
  simp (disch := omega) only [PX, NP, BX]
  have hN : ∀ (l : List Lf), (∀ x ∈ l, x.waits.length ≤ 900) → ∀ x ∈ l, x.waits.length ≤ 900 := fun l h => h
  refine ⟨fun h => absurd rfl h, fun _ => ?_⟩
  refine st_call (Need_spec hB (by intro x hx; simp [newL] at hx; obtain ⟨_, _, rfl⟩ := hx; simp) 0 1) ?_
  rintro _ w2 ⟨r1, h1, rfl, hr1, hB2, hh1⟩
  have e1 : needL (newL (2 : Int).toNat []) 0 1 = ([⟨1, false, false, false, []⟩, ⟨0, false, false, false, []⟩], [⟨1, 0, 0, 1, false⟩], 0) := rfl
  rw [e1] at hr1 hB2 ⊢
  simp only [PX]
  refine st_call (Need_spec hB2 (by intro x hx; simp at hx; rcases hx with rfl | rfl <;> simp) 0 2) ?_
  rintro _ w3 ⟨r2, h2, rfl, hr2, hB3, hh2⟩
  have e2 : needL [⟨1, false, false, false, []⟩, ⟨0, false, false, false, []⟩] 0 2 = ([⟨1, false, true, false, [2]⟩, ⟨0, false, false, false, []⟩], [⟨2, 0, 1, 2, false⟩], 0) := rfl
  rw [e2] at hr2 hB3 ⊢
  simp only [PX]
  refine st_call (Back_spec hB3 (by intro x hx; simp at hx; rcases hx with rfl | rfl <;> simp) 0 1) ?_
  rintro _ w4 ⟨r3, h3, rfl, hr3, hB4, hh3⟩
  have e3 : backL [⟨1, false, true, false, [2]⟩, ⟨0, false, false, false, []⟩] 0 1 = ([⟨2, false, false, false, []⟩, ⟨0, false, false, false, []⟩], [⟨1, 0, 0, 2, false⟩], 0) := rfl
  rw [e3] at hr3 hB4 ⊢
  have hO := hB4.F
  have hU := hB4.upd
  have d1 : RdO w4 r1 [⟨1, 0, 0, 1, false⟩] := hr1.rd (F := []) (hO.sub (.trans (List.sublist_append_right _ _) (List.sublist_append_right _ _)))
  have d2 : RdO w4 r2 [⟨2, 0, 1, 2, false⟩] := hr2.rd (F := h1 ++ []) (hO.sub (List.sublist_append_right _ _))
  have d3 : RdO w4 r3 [⟨1, 0, 0, 2, false⟩] := hr3.rd (F := h2 ++ (h1 ++ [])) hO
  obtain ⟨a1, c1, rfl, x1⟩ := ord_at d1 (i := 0) (by simp)
  obtain ⟨a2, c2, rfl, x2⟩ := ord_at d2 (i := 0) (by simp)
  obtain ⟨a3, c3, rfl, x3⟩ := ord_at d3 (i := 0) (by simp)
  simp (disch := simp) only [PX, BX, List.length_singleton, List.length_cons, List.length_nil]
  have ix : ∀ {a : Addr} {c : Nat} {K : Value → World → Prop}, K (.pointer (some (a.add (0 * 5)))) w4 → (std Try.prog).step (sIndexAddr 33 (.slice (some a) 1 c) (.int .i64 0)) w4 K := fun h => by
    rw [step_run (run_idxS u33 sz46 (by omega) (by omega))]; exact h
  refine ⟨fun _ => ix (st_ldOd x1 ?_), fun h => absurd rfl h⟩
  rw [step_run (bld1 w4), step_run ((eq_od _ _ w4).1 _ _), bool_dec]
  refine ⟨fun _ => ?_, fun h => absurd rfl h⟩
  try simp (disch := simp) only [PX, BX, List.length_singleton, List.length_cons, List.length_nil]
  refine ⟨fun _ => ix (st_ldOd x2 ?_), fun h => absurd rfl h⟩
  rw [step_run (bld2 w4), step_run ((eq_od _ _ w4).1 _ _), bool_dec]
  refine ⟨fun _ => ?_, fun h => absurd rfl h⟩
  try simp (disch := simp) only [PX, BX, List.length_singleton, List.length_cons, List.length_nil]
  refine ⟨fun _ => ix (st_ldOd x3 ?_), fun h => absurd rfl h⟩
  rw [step_run (bld3 w4), step_run ((eq_od _ _ w4).1 _ _)]
  exact ⟨rfl, hU⟩
end Go.Proofs.Ytilfkccahlkcaaa
