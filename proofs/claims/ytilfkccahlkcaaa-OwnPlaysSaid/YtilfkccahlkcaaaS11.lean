/- told. -/
import Derived.Test.YtilfkccahlkcaaaT
namespace Go.Proofs.Ytilfkccahlkcaaa
open Go Xf Go.RowKit
set_option linter.unusedVariables false
set_option linter.unusedSimpArgs false
set_option maxRecDepth 100000

theorem Bk.ext {W w w' : World} {F : List (Nat × Obj)} {gb : Nat} {xs : List Lf} (h : Bk W F gb xs w) (hU : Upd w w' []) : Bk W F gb xs w' := by
  obtain ⟨vl, hl, bs, hB, hx⟩ := h
  exact ⟨vl, hl, bs, hB.ext (hB.own.ext hU) (hB.upd.trans hU), hx⟩
/-- what is kept beside a book, apart from it -/
theorem Bk.open {W w : World} {F : List (Nat × Obj)} {gb : Nat} {xs : List Lf} (h : Bk W F gb xs w) : ∃ R, Owns w (F ++ R) ∧ ∀ F' w', Owns w' (F' ++ R) → Upd W w' [] → Bk W F' gb xs w' := by
  obtain ⟨vl, hl, bs, hB, hx⟩ := h
  refine ⟨bs.flatMap LB.blk ++ restO gb vl hl, ?_, fun F' w' hO hU => ⟨vl, hl, bs, hB.ext ?_ hU, hx⟩⟩
  · refine hB.own.perm ?_
    rw [← List.append_assoc]
    exact List.perm_append_comm
  · refine hO.perm (List.perm_append_comm.trans ?_)
    rw [List.append_assoc]

theorem ia29 {g p : Nat} (h : p < 16) {w : World} {K : Value → World → Prop} : (std Try.prog).step (sIndexAddr 29 (.pointer (some ⟨g, 0, none⟩)) (.int .i64 (p : Nat))) w K = K (.pointer (some ⟨g, p, none⟩)) w := by
  rw [step_run (run_idxA u29 sz3 (by omega) (by omega)), add_mk, Nat.zero_add, Nat.mul_one, Int.toNat_natCast]
theorem ia30 {g p : Nat} (h : p < 16) {w : World} {K : Value → World → Prop} : (std Try.prog).step (sIndexAddr 30 (.pointer (some ⟨g, 0, none⟩)) (.int .i64 (p : Nat))) w K = K (.pointer (some ⟨g, p, none⟩)) w := by
  rw [step_run (run_idxA u30 sz4 (by omega) (by omega)), add_mk, Nat.zero_add, Nat.mul_one, Int.toNat_natCast]
theorem ia29S {g p : Nat} (h : p < 16) {S : World → Prop} {k : Value → Prop} (hne : ∃ w, S w) : (std Try.prog).stepS S (sIndexAddr 29 (.pointer (some ⟨g, 0, none⟩)) (.int .i64 (p : Nat))) k = k (.pointer (some ⟨g, p, none⟩)) := by
  rw [stepS_run hne fun w _ => run_idxA u29 sz3 (by omega) (by omega), add_mk, Nat.zero_add, Nat.mul_one, Int.toNat_natCast]
theorem ia30S {g p : Nat} (h : p < 16) {S : World → Prop} {k : Value → Prop} (hne : ∃ w, S w) : (std Try.prog).stepS S (sIndexAddr 30 (.pointer (some ⟨g, 0, none⟩)) (.int .i64 (p : Nat))) k = k (.pointer (some ⟨g, p, none⟩)) := by
  rw [stepS_run hne fun w _ => run_idxA u30 sz4 (by omega) (by omega), add_mk, Nat.zero_add, Nat.mul_one, Int.toNat_natCast]

theorem told_spec {w : World} {r : Value} {os : List Od} {own own' : List Int} (hl : own.length = 16) (hr : RdO w r os) (hb : os.length ≤ 100000) (ht : toldL own os = some own') :
    CallsR Try.prog 15 #[.agg (intsV .i64 own).toArray, r] w fun v w' => v = .tuple #[.agg (intsV .i64 own').toArray, .bool true] ∧ Upd w w' [] := by
  apply flotillalaw20_told_sound
  unfold flotillalaw20_told_x
  refine st_box (Upd.refl w []) (Owns.nil w) ?_
  intro g2 w1 hU1 hO1 hg2
  refine st_alloc ze29 hU1 hO1 ?_
  intro g4 w2 hU2 hO2 hg4
  obtain ⟨A, c, rfl⟩ := hr.len
  refine st_loop (fun vs w' => ∃ (i : Nat) (cur : List Int) (Z : Array Value), Z.size = 16 ∧ i ≤ os.length ∧ vs.getD 0 undef = .int .i64 i ∧ toldL cur (os.drop i) = some own' ∧ cur.length = 16 ∧ Upd w w' [] ∧ Owns w' [(g4, .cells Z 29 (0, 0)), (g2, .cells (intsV .i64 cur).toArray 29 (0, 0))])
    (fun vs _ => os.length - (intOf (vs.getD 0 undef)).toNat) ⟨0, own, _, by rfl, by omega, rfl, ht, hl, hU2, hO2⟩ ?_
  clear hU1 hO1 hU2 hO2 ht hl
  clear own
  rintro dv vs w3 - ⟨i, cur, Z, hZ, hi, e0, ht, hl, hU, hO⟩
  simp (disch := omega) only [e0, PX, BX]
  refine ⟨fun hlt => ?_, fun hge => ?_⟩
  · have hlt' : i < os.length := by omega
    obtain ⟨a, c', he, hx⟩ := ord_at (w := w3) (Rd.mono hr hU) hlt'
    injection he with he1 _ _
    subst he1
    rw [List.drop_eq_getElem_cons hlt'] at ht
    generalize os[i] = o at hx ht
    simp (disch := first | assumption | omega) only [PX]
    refine st_ldOd hx ?_
    refine st_alloc ze46 hU hO ?_
    intro g7 w4 hU4 hO4 hg7
    refine st_storeN (vs := odV o) (by rw [sz46]; rfl) hU4 hO4 0 rfl (by simp [Value.cells, odV]) (by intro u hu; exact odV_one [o] u (by simpa using hu)) (.inr hg7) ?_
    intro w5 hU5 hO5
    have hO5 : Owns w5 [(g7, .cells #[.int .i64 o.kind, .int .i64 o.page, .int .i64 o.src, .int .i64 o.dst, .bool o.fast] 46 (0, 0)), (g4, .cells Z 29 (0, 0)), (g2, .cells (intsV .i64 cur).toArray 29 (0, 0))] := hO5
    clear hU hO hU4 hO4 hx
    have c0 : w5.cell? ⟨g7, 0, none⟩ = some (.int .i64 o.kind) := cell_at (hO5.at_ 0 rfl)
    have c1 : w5.cell? ⟨g7, 1, none⟩ = some (.int .i64 o.page) := cell_at (hO5.at_ 0 rfl)
    have c2 : w5.cell? ⟨g7, 2, none⟩ = some (.int .i64 o.src) := cell_at (hO5.at_ 0 rfl)
    have c3 : w5.cell? ⟨g7, 3, none⟩ = some (.int .i64 o.dst) := cell_at (hO5.at_ 0 rfl)
    unfold toldL at ht
    by_cases hpg : o.page < 0 ∨ 15 < o.page
    · rw [if_pos hpg] at ht; cases ht
    rw [if_neg hpg] at ht
    obtain ⟨p, hp⟩ : ∃ p : Nat, o.page = p := ⟨o.page.toNat, by omega⟩
    have hp16 : p < 16 := by omega
    rw [hp, Int.toNat_natCast] at ht
    rw [hp] at c1
    have hgd : cur.getD p 0 = cur[p] := by rw [List.getD_eq_getElem?_getD, List.getElem?_eq_getElem (by omega)]; rfl
    rw [hgd] at ht
    have x2 : w5.cell? ⟨g2, p, none⟩ = some (.int .i64 cur[p]) := by rw [cell_at (hO5.at_ 2 rfl)]; simp [intsV, hl, hp16]
    have next : ∀ (cur' : List Int) (w' : World), toldL cur' (os.drop (i + 1)) = some own' → cur'.length = 16 → Upd w w' [] → Owns w' [(g4, .cells Z 29 (0, 0)), (g2, .cells (intsV .i64 cur').toArray 29 (0, 0))] →
        flotillalaw20_told_k2 (std Try.prog) vs (fun vs' w' => (∃ (i : Nat) (cur : List Int) (Z : Array Value), Z.size = 16 ∧ i ≤ os.length ∧ vs'.getD 0 undef = .int .i64 i ∧ toldL cur (os.drop i) = some own' ∧ cur.length = 16 ∧ Upd w w' [] ∧ Owns w' [(g4, .cells Z 29 (0, 0)), (g2, .cells (intsV .i64 cur).toArray 29 (0, 0))]) ∧ os.length - (intOf (vs'.getD 0 undef)).toNat < os.length - (intOf (Value.int .i64 (i : Int))).toNat) w' fun v w' => v = .tuple #[.agg (intsV .i64 own').toArray, .bool true] ∧ Upd w w' [] := by
      intro cur' w' h1 h2 h3 h4
      unfold flotillalaw20_told_k2
      simp (disch := omega) only [e0, PX, w64]
      refine ⟨⟨i + 1, cur', Z, hZ, by omega, rfl, h1, h2, h3, h4⟩, ?_⟩
      simp only [List.getD_cons_zero, intOf]; omega
    simp (disch := first | assumption | omega) only [PX, BX, LX, add_mk, Nat.zero_add]
    refine ⟨fun h => absurd h (by omega), fun _ => ⟨fun h => absurd h (by omega), fun _ => ⟨fun hk => ?_, fun hk => ?_⟩⟩⟩
    · rw [if_pos hk] at ht
      split at ht
      · cases ht
      · rename_i hc
        simp (disch := first | assumption | omega) only [ia29, PX, BX, LX, add_mk, Nat.zero_add]
        refine ⟨fun h => absurd h (by omega), fun _ => ⟨fun h => absurd h (by omega), fun _ => ⟨fun h => absurd h (by omega), fun _ => ?_⟩⟩⟩
        refine st_storeB sz3 rfl hU5 hO5 2 rfl (by simp [intsV, hl, hp16]) (.inr (Nat.zero_le _)) (.inr hg2) ?_
        intro w6 hU6 hO6
        refine next (cur.set p o.dst) w6 ht (by rw [List.length_set]; exact hl) hU6 ?_
        have hO7 := hO6.sub (h' := [(g4, .cells Z 29 (0, 0)), (g2, .cells ((intsV .i64 cur).toArray.setIfInBounds p (.int .i64 o.dst)) 29 (0, 0))]) (.cons _ (List.Sublist.refl _))
        rw [List.setIfInBounds_toArray] at hO7
        rw [show intsV .i64 (cur.set p o.dst) = (intsV .i64 cur).set p (.int .i64 o.dst) by simp [intsV, List.map_set]]
        exact hO7
    · rw [if_neg hk] at ht
      split at ht
      · cases ht
      · rename_i hc
        let H := [(g7, Obj.cells #[.int .i64 o.kind, .int .i64 o.page, .int .i64 o.src, .int .i64 o.dst, .bool o.fast] 46 (0, 0)), (g4, .cells Z 29 (0, 0)), (g2, .cells (intsV .i64 cur).toArray 29 (0, 0))]
        have hS : SU w H w5.drew := SU.drew hU5 hO5
        have hne : ∃ w', SU w H w' := ⟨_, hS⟩
        have d0 : ∀ w', SU w H w' → w'.cell? ⟨g7, 0, none⟩ = some (.int .i64 o.kind) := fun w' h => cell_at (h.2.at_ 0 rfl)
        have d1 : ∀ w', SU w H w' → w'.cell? ⟨g7, 1, none⟩ = some (.int .i64 (p : Int)) := fun w' h => by rw [← hp]; exact cell_at (h.2.at_ 0 rfl)
        have d2 : ∀ w', SU w H w' → w'.cell? ⟨g7, 2, none⟩ = some (.int .i64 o.src) := fun w' h => cell_at (h.2.at_ 0 rfl)
        have d3 : ∀ w', SU w H w' → w'.cell? ⟨g7, 3, none⟩ = some (.int .i64 o.dst) := fun w' h => cell_at (h.2.at_ 0 rfl)
        have dx : ∀ w', SU w H w' → w'.cell? ⟨g2, p, none⟩ = some (.int .i64 cur[p]) := fun w' h => by rw [cell_at (h.2.at_ 2 rfl)]; simp [intsV, hl, hp16]
        refine st_draw (SU w H) hS ?_
        simp (disch := first | assumption | omega) only [ia29S, SX, SLX, BX, add_mk, Nat.zero_add]
        refine ⟨fun h => absurd h (by omega), fun _ => ⟨fun h => absurd h (by omega), fun _ => ⟨fun h => absurd h (by omega), fun _ => ⟨fun h => absurd h (by omega), fun _ => ?_⟩⟩⟩⟩
        exact next cur _ ht hl hS.1 (hS.2.sub (.cons _ (List.Sublist.refl _)))
  · have : i = os.length := by omega
    subst this
    rw [List.drop_length] at ht
    have hc : cur = own' := by simpa [toldL] using ht
    subst hc
    unfold flotillalaw20_told_k1
    refine st_loadN (cs := intsV .i64 cur) ag29 (by rw [sz29, intsV_len, hl]) (by
      intro j v hj
      rw [add_mk, Nat.zero_add, cell_at (hO.at_ 1 rfl)]
      simpa using hj) ?_
    refine st_storeN (vs := intsV .i64 cur) (by rw [sz29, intsV_len, hl]) hU hO 0 rfl (by rw [intsV_len, hl, hZ]; omega) (intsV_one _ _) (.inr hg4) ?_
    intro w5 hU5 hO5
    have hO5 := hO5.at_ 0 rfl
    refine st_loadR (u := .agg (intsV .i64 cur).toArray) (run_loadVarN (cs := intsV .i64 cur) ag29 (by rw [sz29, intsV_len, hl]) ?_) ⟨rfl, hU5⟩
    intro j v hj
    rw [add_mk, Nat.zero_add, cell_at hO5]
    have hj16 : j < 16 := by have := (List.getElem?_eq_some_iff.1 hj).1; rw [intsV_len, hl] at this; exact this
    simp only [List.take_zero, List.nil_append, List.getElem?_toArray]
    rw [List.getElem?_append_left (by rw [intsV_len, hl]; exact hj16)]
    exact hj
end Go.Proofs.Ytilfkccahlkcaaa
