/- OwnGone: the whole. -/
import Derived.Test.YtilfkccahlkcaaaS17
namespace Go.Proofs.Ytilfkccahlkcaaa
open Go Xf Go.RowKit Go.WideShapes
set_option linter.unusedVariables false
set_option linter.unusedSimpArgs false
set_option maxRecDepth 100000

theorem OwnGone_spec (w : World) {vo : Value} {ops : List Op3} (hops : RdS w opV 3 vo ops) (pages inst : Int) :
    CallsR Try.prog 6 #[.int .i64 pages, vo, .int .i64 inst] w fun r w' => r = .bool true ∧ Upd w w' [] := by
  apply flotillalaw20_OwnGone_sound
  unfold flotillalaw20_OwnGone_x
  have liv : ∀ w', Upd w w' [] → (std Try.prog).calls 9 #[] w' fun v w2 => v = .bool true ∧ Upd w w2 [] := fun w' hU => st_call (lives_spec w') fun v w2 h => ⟨h.1, hU.trans h.2⟩
  obtain ⟨Ao, co, rfl, hmo, _⟩ := id hops
  refine st_call (New_spec (F := []) (fl := []) (Upd.refl w []) (Owns.nil w) (fun w' hU' _ => Rd.nil_ _ _) pages) ?_
  intro r w1 hr
  unfold NewR at hr
  split at hr
  · obtain ⟨rfl, hU1, _⟩ := hr
    simp (disch := omega) only [PX, NP, BX]
    exact ⟨fun _ => liv w1 hU1, fun h => absurd (by decide) h⟩
  rename_i hpg
  obtain ⟨gb, rfl, hB⟩ := hr
  simp (disch := omega) only [PX, NP, BX]
  refine ⟨fun h => absurd rfl h, fun _ => ?_⟩
  obtain ⟨pn, rfl⟩ : ∃ n : Nat, pages = n := ⟨pages.toNat, by omega⟩
  rw [Int.toNat_natCast] at hB
  -- the crash
  have k2 : ∀ (xs : List Lf) (gO gW : Nat) (own : List Int) (ws : List Value) (H : List (Nat × Obj)) (w' : World), Inv xs → xs.length = pn → Kept xs pn own ws H → Bk w (GG gO gW own ws H) gb xs w' → flotillalaw20_OwnGone_k2 (std Try.prog) (.int .i64 (pn : Nat)) (.int .i64 inst) (.pointer (some ⟨gb, 0, none⟩)) (.pointer (some ⟨gO, 0, none⟩)) (.pointer (some ⟨gW, 0, none⟩)) w' fun r w' => r = .bool true ∧ Upd w w' [] := by
    intro xs gO gW own ws H w' hI hxl hK hB
    have h16 := hI.1
    unfold flotillalaw20_OwnGone_k2
    refine st_call (Has_spec hB (by omega) inst) ?_
    rintro rh w2 ⟨h1, hrow1, hB2, hh1⟩
    refine st_call (Fail_spec hB2 (by omega) hI.n900 inst) ?_
    rintro rl w3 ⟨h2, hrow2, hB3, hh2⟩
    have hF3 := hB3.F
    have hcnt := has_count hI inst
    refine st_call (Same_spec (hrow1.rd (hF3.sub (List.sublist_append_right _ _))) (hrow2.rd hF3) (by omega)) ?_
    rintro _ w4 ⟨rfl, hU4⟩
    rw [decide_eq_true (has_fail xs inst)]
    simp only [PX, BX, Bool.not_true]
    have hB4 := (hB3.ext hU4).drop
    have hIf := fail_inv hI inst
    have hfl := fail_length xs inst
    refine st_call (Has_spec hB4 (by omega) inst) ?_
    rintro rh2 w5 ⟨h5, hrow5, hB5, hh5⟩
    rw [has_none hI] at hrow5
    obtain ⟨A5, c5, rfl, _⟩ := hrow5.rd hB5.F
    simp (disch := omega) only [PX, BX]
    refine ⟨fun h => absurd rfl h, fun _ => ?_⟩
    have hB6 := hB5.drop
    clear hB hB2 hB3 hB4 hB5 hrow5 hrow2 hU4 hF3
    refine st_loop (fun vs w' => ∃ (i : Nat) (ys : List Lf), i ≤ pn ∧ vs.getD 0 undef = .int .i64 i ∧ Inv ys ∧ ys.length = pn ∧ (∀ j : Nat, i ≤ j → lfAt ys (j : Int) = lfAt (failL xs inst).1 (j : Int)) ∧ Bk w (h1 ++ GG gO gW own ws H) gb ys w') (fun vs _ => pn - (intOf (vs.getD 0 undef)).toNat)
      ⟨0, (failL xs inst).1, by omega, rfl, hIf, by omega, fun _ _ => rfl, hB6⟩ ?_
    clear hB6
    rintro dv vs w6 - ⟨i, ys, hi, e0, hIy, hyl, hy, hB⟩
    simp (disch := omega) only [e0, PX, BX]
    refine ⟨fun hlt => ?_, fun hge => ?_⟩
    rotate_left
    · unfold flotillalaw20_OwnGone_k3
      exact liv w6 hB.upd
    have hlt' : i < pn := by omega
    obtain ⟨ho, _⟩ := hK.2.2 i hlt'
    have hBd : Bk w (h1 ++ GG gO gW own ws H) gb ys w6.drew := hB.ext (Upd.drew w6 [])
    let S : World → Prop := fun w' => Owns w' (h1 ++ GG gO gW own ws H)
    have hS : S w6.drew := hBd.F
    have hne : ∃ w', S w' := ⟨_, hS⟩
    have dO : ∀ w', S w' → w'.cell? ⟨gO, i, none⟩ = some (.int .i64 (lfAt xs (i : Int)).owner) := fun w' h => GG_own (h.sub (List.sublist_append_right _ _)) ho
    have next : ∀ (ys' : List Lf) (w' : World), Inv ys' → ys'.length = ys.length → (∀ j : Nat, j ≠ i → lfAt ys' (j : Int) = lfAt ys (j : Int)) → Bk w (h1 ++ GG gO gW own ws H) gb ys' w' →
        flotillalaw20_OwnGone_k4 (std Try.prog) vs (fun vs' w' => (∃ (i : Nat) (ys : List Lf), i ≤ pn ∧ vs'.getD 0 undef = .int .i64 i ∧ Inv ys ∧ ys.length = pn ∧ (∀ j : Nat, i ≤ j → lfAt ys (j : Int) = lfAt (failL xs inst).1 (j : Int)) ∧ Bk w (h1 ++ GG gO gW own ws H) gb ys w') ∧ pn - (intOf (vs'.getD 0 undef)).toNat < pn - (intOf (Value.int .i64 (i : Int))).toNat) w' fun r w' => r = .bool true ∧ Upd w w' [] := by
      intro ys' w' g1 g2 g3 g4
      unfold flotillalaw20_OwnGone_k4
      simp (disch := omega) only [e0, PX, w64]
      refine ⟨⟨i + 1, ys', by omega, rfl, g1, by omega, fun j hj => ?_, g4⟩, ?_⟩
      · rw [g3 j (by omega), hy j (by omega)]
      · simp only [List.getD_cons_zero, intOf]; omega
    refine st_draw S hS ?_
    simp (disch := first | assumption | omega) only [ia29S, SX, SLX, BX]
    refine st_call (Owner_spec hBd (i : Int)) ?_
    rintro _ w7 ⟨rfl, he⟩
    subst w7
    refine st_same hS ?_
    refine st_call (RHas_spec (i : Int) (hrow1.rd hS) (by omega)) ?_
    rintro _ w7 ⟨rfl, he⟩
    subst w7
    rw [bool_dec]
    have hfa := fail_at (inst := inst) (xs := xs) (j := i) (by omega)
    have hmh := mem_has (inst := inst) (xs := xs) (j := i) (by omega)
    have hyi := hy i (Nat.le_refl _)
    refine ⟨fun hm => ?_, fun hm => ?_⟩
    · obtain ⟨hk, hown⟩ := hmh.1 hm
      have hx : lfAt ys (i : Int) = ⟨0, true, false, (lfAt xs (i : Int)).fast, without (lfAt xs (i : Int)).waits inst⟩ := by
        rw [hyi, hfa, if_pos hk, failX, if_pos hown]
      refine st_call (Lost_spec hBd (i : Int)) ?_
      rintro _ w7 ⟨rfl, he⟩
      subst w7
      have hlo : (lfAt ys (i : Int)).lost = true := by rw [hx]
      have hoo : (0 : Int) = (lfAt ys (i : Int)).owner := by rw [hx]
      rw [hlo]
      simp only [PX, BX, Bool.not_true]
      exact gone_k5 hI hxl hK hIy hyl hlt' hyi hBd hoo next e0
    · have hx : (lfAt xs (i : Int)).owner = (lfAt ys (i : Int)).owner := by
        rw [hyi, hfa]
        split
        · rename_i hk
          unfold failX
          rw [if_neg (fun h => hm (hmh.2 ⟨hk, h⟩))]
        · rfl
      exact gone_k5 hI hxl hK hIy hyl hlt' hyi hBd hx next e0
  have k1 : ∀ (xs : List Lf) (w' : World), Inv xs → xs.length = pn → Bk w [] gb xs w' → flotillalaw20_OwnGone_k1 (std Try.prog) (.int .i64 (pn : Nat)) (.int .i64 inst) (.pointer (some ⟨gb, 0, none⟩)) w' fun r w' => r = .bool true ∧ Upd w w' [] := by
    intro xs w' hI hxl hB
    have h16 := hI.1
    unfold flotillalaw20_OwnGone_k1
    obtain ⟨R, hO, hcl⟩ := hB.open
    refine st_alloc ze29 hB.upd hO ?_
    intro gO w2 hU2 hO2 hgO
    refine st_alloc ze49 hU2 hO2 ?_
    intro gW w3 hU3 hO3 hgW
    have hB3 : Bk w (GG gO gW (List.replicate 16 0) (List.replicate 16 (.slice none 0 0)) []) gb xs w3 := hcl _ w3 hO3 hU3
    clear hB hO hcl hU2 hO2 hU3 hO3
    refine st_loop (fun vs w' => ∃ (i : Nat) (own : List Int) (ws : List Value) (H : List (Nat × Obj)), i ≤ pn ∧ vs.getD 0 undef = .int .i64 i ∧ Kept xs i own ws H ∧ Bk w (GG gO gW own ws H) gb xs w') (fun vs _ => pn - (intOf (vs.getD 0 undef)).toNat)
      ⟨0, _, _, [], by omega, rfl, ⟨rfl, rfl, fun j hj => by omega⟩, hB3⟩ ?_
    clear hB3
    rintro dv vs w4 - ⟨i, own, ws, H, hi, e0, hK, hB⟩
    simp (disch := omega) only [e0, PX, BX]
    refine ⟨fun hlt => ?_, fun hge => ?_⟩
    rotate_left
    · have : i = pn := by omega
      rw [this] at hK
      exact k2 xs gO gW own ws H w4 hI hxl hK hB
    have hlt' : i < pn := by omega
    have hBd : Bk w (GG gO gW own ws H) gb xs w4.drew := hB.ext (Upd.drew w4 [])
    let S : World → Prop := fun _ => True
    have hS : ∀ w', S w' := fun _ => trivial
    have hne : ∃ w', S w' := ⟨w4, trivial⟩
    refine st_draw S trivial ?_
    refine st_call (Owner_spec hBd (i : Int)) ?_
    rintro _ w5 ⟨rfl, he⟩
    subst w5
    refine st_same (S := S) trivial ?_
    simp (disch := first | assumption | omega) only [ia29S]
    refine st_call (Waits_spec hBd hI.n900 (i : Int)) ?_
    rintro r w5 ⟨hr, hrow, hB5, hhr⟩
    refine st_same (S := S) trivial ?_
    obtain ⟨k1, k2', k3⟩ := hK
    have hB6 : Bk w (GG gO gW own ws (hr ++ H)) gb xs w5 := hB5.perm (List.perm_append_comm_assoc hr [_, _] H)
    obtain ⟨R, hO, hcl⟩ := hB6.open
    have hone : oneB r = true := by
      obtain ⟨A, c, he, _⟩ := hrow.rd hB5.F
      rw [he]; rfl
    refine st_storeB sz3 rfl hB6.upd hO 1 rfl (by simp [intsV, k1]; omega) (.inr (Nat.zero_le _)) (.inr hgO) ?_
    intro w7 hU7 hO7
    refine st_same (S := S) trivial ?_
    simp (disch := first | assumption | omega) only [ia49S]
    refine st_storeB sz36 hone hU7 hO7 0 rfl (by simp [k2']; omega) (.inr (Nat.zero_le _)) (.inr hgW) ?_
    intro w8 hU8 hO8
    refine st_keepT (fun _ => True) trivial ?_
    simp (disch := omega) only [e0, PX, w64]
    refine ⟨⟨i + 1, own.set i (lfAt xs (i : Int)).owner, ws.set i r, hr ++ H, by omega, rfl, ⟨by rw [List.length_set]; exact k1, by rw [List.length_set]; exact k2', fun j hj => ?_⟩, hcl _ w8 ?_ hU8⟩, ?_⟩
    · by_cases hji : i = j
      · subst hji
        rw [List.getElem?_set_self (by omega), List.getElem?_set_self (by omega)]
        exact ⟨rfl, r, rfl, fun w' hO' => hrow.rd hO'⟩
      · rw [List.getElem?_set_ne hji, List.getElem?_set_ne hji]
        obtain ⟨m1, u, m2, m3⟩ := k3 j (by omega)
        exact ⟨m1, u, m2, fun w' hO' => m3 w' (hO'.sub (List.sublist_append_right _ _))⟩
    · rw [List.setIfInBounds_toArray, List.setIfInBounds_toArray] at hO8
      unfold GG
      rw [show intsV .i64 (own.set i (lfAt xs (i : Int)).owner) = (intsV .i64 own).set i (.int .i64 (lfAt xs (i : Int)).owner) by simp [intsV, List.map_set]]
      exact hO8
    · simp only [List.getD_cons_zero, intOf]; omega
  refine st_loop (fun vs w' => ∃ (i : Nat) (xs : List Lf), i ≤ ops.length ∧ vs.getD 0 undef = .int .i64 i ∧ Inv xs ∧ xs.length = pn ∧ Bk w [] gb xs w') (fun vs _ => ops.length - (intOf (vs.getD 0 undef)).toNat)
    ⟨0, newL pn [], by omega, rfl, Inv.new (by omega) [], newL_len _ _, hB⟩ ?_
  clear hB
  rintro dv vs w4 - ⟨i, xs, hi, e0, hI, hxl, hB⟩
  simp (disch := omega) only [e0, PX, BX]
  refine ⟨fun hlt => ⟨fun h80 => ?_, fun _ => k1 xs w4 hI hxl hB⟩, fun _ => k1 xs w4 hI hxl hB⟩
  have hlt' : i < ops.length := by omega
  obtain ⟨a, ca, he, hcell⟩ := op_cells hops hlt'
  injection he with he1 _ _
  subst he1
  generalize ops[i] = o at *
  obtain ⟨c0, c1, c2⟩ := hcell w4 hB.upd
  have hne : ∃ w', Upd w w' [] := ⟨_, hB.upd⟩
  have d1 : ∀ w', Upd w w' [] → w'.cell? ((a.add (i * 3)).add 1) = some (.int .i64 o.page) := fun w' h => (hcell w' h).2.1
  have d2 : ∀ w', Upd w w' [] → w'.cell? ((a.add (i * 3)).add 2) = some (.int .i64 o.inst) := fun w' h => (hcell w' h).2.2
  have hBd : Bk w [] gb xs w4.drew := hB.ext (Upd.drew w4 [])
  have next : ∀ (xs' : List Lf) (w' : World), Inv xs' → xs'.length = xs.length → Bk w [] gb xs' w' →
      flotillalaw20_OwnGone_k11 (std Try.prog) vs (fun vs' w' => (∃ (i : Nat) (xs : List Lf), i ≤ ops.length ∧ vs'.getD 0 undef = .int .i64 i ∧ Inv xs ∧ xs.length = pn ∧ Bk w [] gb xs w') ∧ ops.length - (intOf (vs'.getD 0 undef)).toNat < ops.length - (intOf (Value.int .i64 (i : Int))).toNat) w' fun r w' => r = .bool true ∧ Upd w w' [] := by
    intro xs' w' hI' hl' hB'
    unfold flotillalaw20_OwnGone_k11
    simp (disch := omega) only [e0, PX, w64]
    refine ⟨⟨i + 1, xs', by omega, rfl, hI', by omega, hB'⟩, ?_⟩
    simp only [List.getD_cons_zero, intOf]; omega
  simp (disch := first | assumption | omega) only [PX, BX, LX]
  refine ⟨fun h0 => ?_, fun h0 => ⟨fun h1 => ?_, fun h1 => ⟨fun h2 => ?_, fun h2 => ⟨fun h3 => ?_, fun h3 => next xs w4 hI rfl hB⟩⟩⟩⟩
  · refine st_draw (fun w' => Upd w w' []) hBd.upd ?_
    simp (disch := first | assumption | omega) only [SX, SLX]
    refine st_call (Need_spec hBd hI.n900 o.page o.inst) ?_
    rintro _ w6 ⟨ro, ho, rfl, hor, hB6, hho⟩
    refine st_keepT (fun _ => True) trivial ?_
    have := need_law hI o.page o.inst
    exact next _ w6 this.1 this.2.1 hB6.drop
  · refine st_draw (fun w' => Upd w w' []) hBd.upd ?_
    simp (disch := first | assumption | omega) only [SX, SLX]
    refine st_call (Back_spec hBd hI.n900 o.page o.inst) ?_
    rintro _ w6 ⟨ro, ho, rfl, hor, hB6, hho⟩
    refine st_keepT (fun _ => True) trivial ?_
    have := back_law hI o.page o.inst
    exact next _ w6 this.1 this.2.1 hB6.drop
  · refine st_call (Fail_spec hB (by have := hI.1; omega) hI.n900 o.inst) ?_
    rintro rg w6 ⟨hr, hrow, hB6, hhr⟩
    exact next _ w6 (fail_inv hI _) (fail_length _ _) hB6.drop
  · refine st_call (Mend_spec hB hI.n900 o.page) ?_
    rintro _ w6 ⟨ro, ho, rfl, hor, hB6, hho⟩
    have := mend_law hI o.page
    exact next _ w6 this.1 this.2.1 hB6.drop
end Go.Proofs.Ytilfkccahlkcaaa
