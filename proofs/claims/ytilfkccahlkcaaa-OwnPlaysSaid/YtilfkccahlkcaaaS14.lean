/- OwnTurns. -/
import Derived.Test.YtilfkccahlkcaaaT3
namespace Go.Proofs.Ytilfkccahlkcaaa
open Go Xf Go.RowKit Go.WideShapes
set_option linter.unusedVariables false
set_option linter.unusedSimpArgs false
set_option maxRecDepth 100000

theorem op_cells {W : World} {v : Value} {ops : List Op3} (hr : RdS W opV 3 v ops) {i : Nat} (hi : i < ops.length) :
    ∃ a c, v = .slice (some a) ops.length c ∧ ∀ w, Upd W w [] → w.cell? (a.add (i * 3)) = some (.int .i64 ops[i].kind) ∧ w.cell? ((a.add (i * 3)).add 1) = some (.int .i64 ops[i].page) ∧ w.cell? ((a.add (i * 3)).add 2) = some (.int .i64 ops[i].inst) := by
  obtain ⟨A, c, rfl, hm, hrd⟩ := hr
  obtain ⟨a, rfl, hx⟩ := Rd.row (f := opV) (k := 3) (fun _ => rfl) (by omega) hrd hi
  refine ⟨a, c, rfl, fun w hU => ?_⟩
  have e : ((i : Nat) : Int).toNat = i := by omega
  rw [e] at hx
  rw [add_add', add_add']
  exact ⟨hx w hU 0 _ rfl, hx w hU 1 _ rfl, hx w hU 2 _ rfl⟩

section
variable {W w : World} {F : List (Nat × Obj)} {gb : Nat} {xs : List Lf}
theorem Bk.drop {h : List (Nat × Obj)} (hB : Bk W (h ++ F) gb xs w) : Bk W F gb xs w := hB.sub (List.sublist_append_right _ _)
end

theorem OwnTurns_spec (w : World) {vo : Value} {ops : List Op3} (hops : RdS w opV 3 vo ops) (pages page : Int) :
    CallsR Try.prog 4 #[.int .i64 pages, vo, .int .i64 page] w fun r w' => r = .bool true ∧ Upd w w' [] := by
  apply flotillalaw20_OwnTurns_sound
  unfold flotillalaw20_OwnTurns_x
  have liv : ∀ w', Upd w w' [] → (std Try.prog).calls 9 #[] w' fun v w2 => v = .bool true ∧ Upd w w2 [] := fun w' hU => st_call (lives_spec w') fun v w2 h => ⟨h.1, hU.trans h.2⟩
  obtain ⟨Ao, co, rfl, hmo, _⟩ := id hops
  refine st_call (New_spec (F := []) (fl := []) (Upd.refl w []) (Owns.nil w) (fun w' hU' _ => Rd.nil_ _ _) pages) ?_
  intro r w1 hr
  unfold NewR at hr
  split at hr
  · obtain ⟨rfl, hU1, _⟩ := hr
    simp (disch := omega) only [PX, NP, BX]
    exact ⟨fun _ => liv w1 hU1, fun h => absurd (by decide) h⟩
  rename_i hpg
  obtain ⟨gb, rfl, hB⟩ := hr
  simp (disch := omega) only [PX, NP, BX]
  refine ⟨fun h => absurd rfl h, fun _ => ?_⟩
  obtain ⟨pn, rfl⟩ : ∃ n : Nat, pages = n := ⟨pages.toNat, by omega⟩
  rw [Int.toNat_natCast] at hB
  -- the waits are all gone
  have k3 : ∀ (xs : List Lf) (w' : World), Inv xs → Bk w [] gb xs w' → (lfAt xs page).waits = [] → flotillalaw20_OwnTurns_k3 (std Try.prog) (.int .i64 page) (.pointer (some ⟨gb, 0, none⟩)) w' fun r w' => r = .bool true ∧ Upd w w' [] := by
    intro xs w' hI hB hw
    unfold flotillalaw20_OwnTurns_k3
    refine st_call (Waits_spec hB hI.n900 page) ?_
    rintro r w2 ⟨hr, hrow, hB2, _⟩
    obtain ⟨A, c, rfl, _⟩ := hrow.rd hB2.F
    rw [hw]
    simp (disch := omega) only [PX, BX]
    exact ⟨fun _ => liv w2 hB2.upd, fun h => absurd rfl h⟩
  -- the turns
  have k2 : ∀ (xs : List Lf) (w' : World) (p : Nat) (row : List Int) (F : List (Nat × Obj)) (vr : Value), page = p → row.length ≤ 900 → Turn xs p row 0 → Bk w F gb xs w' → (∀ w'', Owns w'' F → Rd w'' 1 vr row.length (intsV .i64 row)) →
      flotillalaw20_OwnTurns_k2 (std Try.prog) (.int .i64 page) (.pointer (some ⟨gb, 0, none⟩)) vr w' fun r w' => r = .bool true ∧ Upd w w' [] := by
    rintro xs w' p row F vr rfl hrl hT hB hrd
    unfold flotillalaw20_OwnTurns_k2
    obtain ⟨Ar, cr, rfl, _⟩ := hrd w' hB.F
    refine st_loop (fun vs w' => ∃ (i : Nat) (xs : List Lf), i ≤ row.length ∧ vs.getD 0 undef = .int .i64 i ∧ Turn xs p row i ∧ Bk w F gb xs w') (fun vs _ => row.length - (intOf (vs.getD 0 undef)).toNat) ⟨0, xs, by omega, rfl, hT, hB⟩ ?_
    clear hT hB
    clear xs
    rintro dv vs w2 - ⟨i, xs, hi, e0, hT, hB⟩
    simp (disch := omega) only [e0, PX, BX]
    refine ⟨fun hlt => ?_, fun hge => ?_⟩
    · have hlt' : i < row.length := by omega
      refine st_call (Owner_spec hB (p : Int)) ?_
      rintro _ w3 ⟨rfl, he⟩
      subst w3
      refine st_call (Back_spec hB hT.1.n900 (p : Int) _) ?_
      rintro _ w3 ⟨ro, ho, rfl, hor, hB3, hho⟩
      obtain ⟨xs', f, hbe, hT', hown⟩ := turn_next hT hlt'
      rw [hbe] at hor hB3 ⊢
      obtain ⟨Ad, cd, rfl⟩ := (hor.rd hB3.F).len
      simp (disch := omega) only [PX]
      have hrl2 : (row.drop (i + 1)).length = row.length - (i + 1) := List.length_drop
      have hr2 : row[i + 1]? = (row.drop (i + 1))[0]? := by rw [List.getElem?_drop]
      generalize hrest : row.drop (i + 1) = rest at *
      let S : World → Prop := fun w' => Owns w' (ho ++ F)
      have hB4 : Bk w (ho ++ F) gb xs' w3.drew := hB3.ext (Upd.drew w3 [])
      have hS : S w3.drew := hB4.F
      have hne : ∃ w', S w' := ⟨_, hS⟩
      -- what can be read of the orders and of the row
      have hx0 : ∃ a, Ad = some a ∧ ∀ w', S w' → ∀ (j : Nat) (hj : j < (giveO p f row[i] rest).length) (q : Nat) (u : Value), (odV (giveO p f row[i] rest)[j])[q]? = some u → w'.cell? ((a.add (j * 5)).add q) = some u := by
        have h0 : 0 < (giveO (p : Int) f row[i] rest).length := by rw [giveO_len]; split <;> omega
        obtain ⟨a, c, he, _⟩ := ord_at (hor.rd hS) h0
        injection he with he _ _
        refine ⟨a, he, fun w' hs j hj q u hu => ?_⟩
        obtain ⟨a', c', he', hx⟩ := ord_at (hor.rd hs) hj
        injection he' with he' _ _
        rw [he] at he'
        injection he' with he'
        rw [he']; exact hx q u hu
      obtain ⟨ad, rfl, hx0⟩ := hx0
      have hxr : ∃ a, Ar = some a ∧ ∀ w', S w' → ∀ (j : Nat) (x : Int), row[j]? = some x → w'.cell? (a.add j) = some (.int .i64 x) := by
        obtain ⟨A', c', he, _, _, hx⟩ := hrd _ (hS.sub (List.sublist_append_right _ _))
        injection he with he1 _ _
        obtain ⟨a, ha, _⟩ := hx i (.int .i64 row[i]) (by simp [intsV, hlt'])
        refine ⟨a, he1.trans ha, fun w' hs j x hj => ?_⟩
        obtain ⟨A'', c'', he', _, _, hx'⟩ := hrd _ (hs.sub (List.sublist_append_right _ _))
        injection he' with he1' _ _
        obtain ⟨a', ha', hx'⟩ := hx' j (.int .i64 x) (by simp [intsV, hj])
        have := (he1.trans ha).symm.trans (he1'.trans ha')
        injection this with this
        rw [this]; exact hx'
      obtain ⟨ar, rfl, hxr⟩ := hxr
      have hlen : (giveO (p : Int) f row[i] rest).length = if rest = [] then 1 else 2 := giveO_len _ _ _ _
      have hpos : 0 < (giveO (p : Int) f row[i] rest).length := by rw [hlen]; split <;> omega
      have g0 : (giveO (p : Int) f row[i] rest)[0] = ⟨1, p, 0, row[i], f⟩ := by cases rest <;> rfl
      have d0 : ∀ w', S w' → w'.cell? (ad.add (0 * 5)) = some (.int .i64 1) := fun w' h => by
        have := hx0 w' h 0 hpos 0 (.int .i64 1) (by rw [g0]; rfl)
        exact this
      have d3 : ∀ w', S w' → w'.cell? ((ad.add (0 * 5)).add 3) = some (.int .i64 row[i]) := fun w' h => hx0 w' h 0 hpos 3 (.int .i64 row[i]) (by rw [g0]; rfl)
      have dr : ∀ w', S w' → w'.cell? (ar.add i) = some (.int .i64 row[i]) := fun w' h => hxr w' h i _ (List.getElem?_eq_getElem hlt')
      have ix0 : ∀ {k : Value → Prop}, (std Try.prog).stepS S (sIndexAddr 33 (.slice (some ad) (giveO (p : Int) f row[i] rest).length cd) (.int .i64 0)) k = k (.pointer (some (ad.add (0 * 5)))) := by
        intro k
        rw [stepS_run hne fun w _ => run_idxS u33 sz46 (by omega) (by omega)]
        rfl
      have fin : ∀ w', Upd w3 w' [] → flotillalaw20_OwnTurns_k4 (std Try.prog) vs (fun vs' w' => (∃ (i : Nat) (xs : List Lf), i ≤ row.length ∧ vs'.getD 0 undef = .int .i64 i ∧ Turn xs p row i ∧ Bk w F gb xs w') ∧ row.length - (intOf (vs'.getD 0 undef)).toNat < row.length - (intOf (Value.int .i64 (i : Int))).toNat) w' fun r w' => r = .bool true ∧ Upd w w' [] := by
        intro w' hU
        unfold flotillalaw20_OwnTurns_k4
        simp (disch := omega) only [e0, PX, w64]
        refine ⟨⟨i + 1, xs', by omega, rfl, hT', (hB3.ext hU).drop⟩, ?_⟩
        simp only [List.getD_cons_zero, intOf]; omega
      refine st_draw S hS ?_
      simp (disch := first | assumption | omega) only [SX, SLX, BX, ix0, Nat.mul_one]
      refine ⟨fun h => absurd rfl h, fun _ => ⟨fun h => absurd h (by omega), fun _ => ⟨fun h => absurd rfl h, fun _ => ⟨fun h => absurd rfl h, fun _ => ?_⟩⟩⟩⟩
      refine st_call (Owner_spec hB4 (p : Int)) ?_
      rintro _ w5 ⟨rfl, he⟩
      subst w5
      refine st_same hS ?_
      rw [hown]
      simp (disch := first | assumption | omega) only [SX, SLX, BX]
      refine ⟨fun h => absurd rfl h, fun _ => ?_⟩
      have hS2 : S w3.drew.drew := (hB4.ext (Upd.drew _ [])).F
      have hU2 : Upd w3 w3.drew.drew [] := (Upd.drew w3 []).trans (Upd.drew _ [])
      refine st_draw S hS2 ?_
      simp (disch := first | assumption | omega) only [SX, SLX, BX, w64]
      have hb : (decide (((giveO (p : Int) f row[i] rest).length : Int) = 2) == decide (((i : Int) + 1) < (row.length : Int))) = true := by
        rw [hlen, beq_iff_eq, decide_eq_decide]
        split
        · rename_i he
          rw [he] at hrl2
          simp at hrl2
          omega
        · rename_i he
          have : rest.length ≠ 0 := fun h => he (List.eq_nil_of_length_eq_zero h)
          omega
      rw [hb]
      simp (disch := first | assumption | omega) only [SX, SLX, BX, Bool.not_true]
      refine ⟨fun h2 => ?_, fun _ => fin _ hU2⟩
      have hne2 : rest ≠ [] := fun he => by rw [hlen, if_pos he] at h2; omega
      cases hre : rest with
      | nil => exact absurd hre hne2
      | cons b r =>
        have hl1 : 1 < (giveO (p : Int) f row[i] rest).length := by rw [hlen, if_neg hne2]; omega
        have g1 : (giveO (p : Int) f row[i] rest)[1] = ⟨2, p, row[i], b, f⟩ := by subst hre; rfl
        have ix1 : ∀ {k : Value → Prop}, (std Try.prog).stepS S (sIndexAddr 33 (.slice (some ad) (giveO (p : Int) f row[i] rest).length cd) (.int .i64 1)) k = k (.pointer (some (ad.add (1 * 5)))) := by
          intro k
          rw [stepS_run hne fun w _ => run_idxS u33 sz46 (by omega) (by omega)]
          rfl
        have y0 : ∀ w', S w' → w'.cell? (ad.add (1 * 5)) = some (.int .i64 2) := fun w' h => by
          have := hx0 w' h 1 hl1 0 (.int .i64 2) (by rw [g1]; rfl)
          exact this
        have y2 : ∀ w', S w' → w'.cell? ((ad.add (1 * 5)).add 2) = some (.int .i64 row[i]) := fun w' h => hx0 w' h 1 hl1 2 (.int .i64 row[i]) (by rw [g1]; rfl)
        have y3 : ∀ w', S w' → w'.cell? ((ad.add (1 * 5)).add 3) = some (.int .i64 b) := fun w' h => hx0 w' h 1 hl1 3 (.int .i64 b) (by rw [g1]; rfl)
        have hrb : row[i + 1]? = some b := by rw [hr2, hre]; rfl
        have dr1 : ∀ w', S w' → w'.cell? (ar.add (i + 1)) = some (.int .i64 b) := fun w' h => hxr w' h (i + 1) b hrb
        have hlt2 : i + 1 < row.length := (List.getElem?_eq_some_iff.1 hrb).1
        have ixr : ∀ {k : Value → Prop}, (std Try.prog).stepS S (sIndexAddr 36 (.slice (some ar) row.length cr) (.int .i64 ((i : Int) + 1))) k = k (.pointer (some (ar.add (i + 1)))) := by
          intro k
          rw [stepS_run hne fun w _ => run_idxS u36 sz3 (by omega) (by omega), show ((i : Int) + 1).toNat * 1 = i + 1 by omega]
        rw [← hre]
        simp (disch := first | assumption | omega) only [SX, SLX, BX, ix1, ixr, Nat.mul_one, w64]
        refine ⟨fun h => absurd rfl h, fun _ => ⟨fun h => absurd rfl h, fun _ => ⟨fun h => absurd rfl h, fun _ => ?_⟩⟩⟩
        exact fin _ hU2
    · have : i = row.length := by omega
      subst this
      exact k3 xs w2 hT.1 (hB.sub (List.nil_sublist _)) (by rw [hT.2.2.1, List.drop_length])
  have k7 : ∀ (xs : List Lf) (w' : World) (p : Nat) (row : List Int) (F : List (Nat × Obj)) (vr : Value), page = p → row.length ≤ 900 → Turn xs p (row.drop 1) 0 → Bk w F gb xs w' → (∀ w'', Owns w'' F → Rd w'' 1 vr row.length (intsV .i64 row)) →
      flotillalaw20_OwnTurns_k7 (std Try.prog) (.int .i64 page) (.pointer (some ⟨gb, 0, none⟩)) vr w' fun r w' => r = .bool true ∧ Upd w w' [] := by
    intro xs w' p row F vr hp hrl hT hB hrd
    unfold flotillalaw20_OwnTurns_k7
    obtain ⟨Ar, cr, rfl, hcr, _⟩ := hrd w' hB.F
    simp (disch := omega) only [PX, BX]
    refine ⟨fun h0 => ?_, fun h0 => ?_⟩
    · rw [step_run (run_sliceFrom u36 sz3 (by omega) (by omega) hcr)]
      refine k2 xs w' p (row.drop 1) F _ hp (by rw [List.length_drop]; omega) hT hB fun w'' hO => ?_
      have hd := Rd.drop (hrd w'' hO) (i := 1) (by omega)
      have e : intsV .i64 (row.drop 1) = (intsV .i64 row).drop 1 := by simp [intsV, List.map_drop]
      rw [List.length_drop, e]
      exact hd
    · have hr0 : row = [] := List.eq_nil_of_length_eq_zero (by omega)
      subst hr0
      exact k2 xs w' p [] F _ hp hrl hT hB hrd
  have k1 : ∀ (xs : List Lf) (w' : World), Inv xs → xs.length = pn → Bk w [] gb xs w' → flotillalaw20_OwnTurns_k1 (std Try.prog) (.int .i64 (pn : Nat)) (.int .i64 page) (.pointer (some ⟨gb, 0, none⟩)) w' fun r w' => r = .bool true ∧ Upd w w' [] := by
    intro xs w' hI hxl hB
    have out : ¬ (0 ≤ page ∧ page < pn) → ∀ (Q : Value → World → Prop), (∀ w2 c A, Upd w w2 [] → Q (.slice A 0 c) w2) → (std Try.prog).calls 18 #[.pointer (some ⟨gb, 0, none⟩), .int .i64 page] w' Q := by
      intro hn Q hQ
      refine st_call (Waits_spec hB hI.n900 page) ?_
      rintro r w2 ⟨hr, hrow, hB2, _⟩
      rw [lfAt_out (by rw [hxl]; exact hn)] at hrow
      obtain ⟨A, c, rfl, _⟩ := hrow.rd hB2.F
      exact hQ w2 c A hB2.upd
    unfold flotillalaw20_OwnTurns_k1
    simp only [PX, BX]
    refine ⟨fun h0 => out (by omega) _ fun w2 c A hU => ?_, fun h0 => ⟨fun h1 => out (by omega) _ fun w2 c A hU => ?_, fun h1 => ?_⟩⟩
    · simp (disch := omega) only [PX, BX]
      exact ⟨fun _ => liv w2 hU, fun h => absurd rfl h⟩
    · simp (disch := omega) only [PX, BX]
      exact ⟨fun _ => liv w2 hU, fun h => absurd rfl h⟩
    obtain ⟨p, hp⟩ : ∃ p : Nat, page = p := ⟨page.toNat, by omega⟩
    have hpl : p < xs.length := by omega
    refine st_call (Waits_spec hB hI.n900 page) ?_
    rintro r w2 ⟨hr, hrow, hB2, _⟩
    rw [hp] at hrow
    have hrl : (lfAt xs (p : Int)).waits.length ≤ 900 := by have := (hI.at_ (p : Int)).len; omega
    have hrd : ∀ (Y : List (Nat × Obj)) w'', Owns w'' (Y ++ (hr ++ [])) → Rd w'' 1 r (lfAt xs (p : Int)).waits.length (intsV .i64 (lfAt xs (p : Int)).waits) := fun Y w'' hO => hrow.rd (hO.sub (List.sublist_append_right _ _))
    refine st_call (Lost_spec hB2 page) ?_
    rintro _ w3 ⟨rfl, he⟩
    subst w3
    rw [bool_var]
    refine ⟨fun hl => ?_, fun hl => ?_⟩
    rotate_left
    · rw [hp] at hl
      exact k2 xs w2 p _ _ r hp hrl (turn_first hI hpl hl) hB2 (fun w'' hO => hrd [] w'' hO)
    rw [hp] at hl
    refine st_call (Mend_spec hB2 hI.n900 page) ?_
    rintro _ w3 ⟨ro, ho, rfl, hor, hB3, hho⟩
    obtain ⟨m1, m2, m3⟩ := turn_mend hI hpl hl
    rw [← hp] at m1 m2 m3
    have fin : ∀ w'', Upd w3 w'' [] → flotillalaw20_OwnTurns_k7 (std Try.prog) (.int .i64 page) (.pointer (some ⟨gb, 0, none⟩)) r w'' fun r w' => r = .bool true ∧ Upd w w' [] := fun w'' hU =>
      k7 (mendL xs page).1 w'' p (lfAt xs (p : Int)).waits _ r hp hrl (by rw [← hp]; exact m2) (hB3.ext hU) (fun w'' hO => hrd ho w'' hO)
    rw [m1]
    obtain ⟨Ad, cd, rfl⟩ := (hor.rd hB3.F).len
    simp only [PX]
    let S : World → Prop := fun w' => Owns w' (ho ++ (hr ++ []))
    have hB4 : Bk w (ho ++ (hr ++ [])) gb (mendL xs page).1 w3.drew := hB3.ext (Upd.drew w3 [])
    have hS : S w3.drew := hB4.F
    have hne : ∃ w', S w' := ⟨_, hS⟩
    obtain ⟨Ar, cr, rfl, _⟩ := hrd ho _ hS
    refine st_draw S hS ?_
    simp (disch := first | assumption | omega) only [SX, SLX, BX]
    refine ⟨fun h => absurd rfl h, fun _ => ⟨fun hl0 => ?_, fun hl0 => fin _ (Upd.drew w3 [])⟩⟩
    cases hwe : (lfAt xs (p : Int)).waits with
    | nil => rw [hwe] at hl0; simp at hl0
    | cons a rr =>
      obtain ⟨f, hgo⟩ := m3 a rr (by rw [hp]; exact hwe)
      have hpos : 0 < (mendL xs page).2.1.length := by rw [hgo, giveO_len]; split <;> omega
      have g0 : (mendL xs page).2.1[0] = ⟨1, page, 0, a, f⟩ := by
        have : (mendL xs page).2.1[0]? = some ⟨1, page, 0, a, f⟩ := by rw [hgo]; cases rr <;> rfl
        rw [List.getElem?_eq_getElem hpos] at this
        injection this
      have hx0 : ∃ a, Ad = some a ∧ ∀ w', S w' → ∀ (q : Nat) (u : Value), (odV (mendL xs page).2.1[0])[q]? = some u → w'.cell? ((a.add (0 * 5)).add q) = some u := by
        obtain ⟨a, c, he, _⟩ := ord_at (hor.rd hS) hpos
        injection he with he _ _
        refine ⟨a, he, fun w' hs q u hu => ?_⟩
        obtain ⟨a', c', he', hx⟩ := ord_at (hor.rd hs) hpos
        injection he' with he' _ _
        rw [he] at he'
        injection he' with he'
        rw [he']; exact hx q u hu
      obtain ⟨ad, rfl, hx0⟩ := hx0
      have hxr : ∃ x, Ar = some x ∧ ∀ w', S w' → w'.cell? (x.add 0) = some (.int .i64 a) := by
        obtain ⟨A', c', he, _, _, hx⟩ := hrd ho _ hS
        injection he with he1 _ _
        obtain ⟨x, ha, _⟩ := hx 0 (.int .i64 a) (by simp [intsV, hwe])
        refine ⟨x, he1.trans ha, fun w' hs => ?_⟩
        obtain ⟨A'', c'', he', _, _, hx'⟩ := hrd ho _ hs
        injection he' with he1' _ _
        obtain ⟨a', ha', hx'⟩ := hx' 0 (.int .i64 a) (by simp [intsV, hwe])
        have := (he1.trans ha).symm.trans (he1'.trans ha')
        injection this with this
        rw [this]; exact hx'
      obtain ⟨ar, rfl, hxr⟩ := hxr
      have d0 : ∀ w', S w' → w'.cell? (ad.add (0 * 5)) = some (.int .i64 1) := fun w' h => by
        have := hx0 w' h 0 (.int .i64 1) (by rw [g0]; rfl)
        exact this
      have d3 : ∀ w', S w' → w'.cell? ((ad.add (0 * 5)).add 3) = some (.int .i64 a) := fun w' h => hx0 w' h 3 (.int .i64 a) (by rw [g0]; rfl)
      have ix0 : ∀ {k : Value → Prop}, (std Try.prog).stepS S (sIndexAddr 33 (.slice (some ad) (mendL xs page).2.1.length cd) (.int .i64 0)) k = k (.pointer (some (ad.add (0 * 5)))) := by
        intro k
        rw [stepS_run hne fun w _ => run_idxS u33 sz46 (by omega) (by omega)]
        rfl
      have ixr : ∀ {k : Value → Prop}, (std Try.prog).stepS S (sIndexAddr 36 (.slice (some ar) (lfAt xs (p : Int)).waits.length cr) (.int .i64 0)) k = k (.pointer (some (ar.add 0))) := by
        intro k
        rw [stepS_run hne fun w _ => run_idxS u36 sz3 (by omega) (by omega)]
        rfl
      rw [← hwe]
      simp (disch := first | assumption | omega) only [SX, SLX, BX, ix0, ixr]
      refine ⟨fun h => absurd h (by omega), fun _ => ⟨fun h => absurd rfl h, fun _ => ⟨fun h => absurd rfl h, fun _ => ?_⟩⟩⟩
      exact fin _ (Upd.drew w3 [])
  refine st_loop (fun vs w' => ∃ (i : Nat) (xs : List Lf), i ≤ ops.length ∧ vs.getD 0 undef = .int .i64 i ∧ Inv xs ∧ xs.length = pn ∧ Bk w [] gb xs w') (fun vs _ => ops.length - (intOf (vs.getD 0 undef)).toNat)
    ⟨0, newL pn [], by omega, rfl, Inv.new (by omega) [], newL_len _ _, hB⟩ ?_
  clear hB
  rintro dv vs w4 - ⟨i, xs, hi, e0, hI, hxl, hB⟩
  simp (disch := omega) only [e0, PX, BX]
  refine ⟨fun hlt => ⟨fun h80 => ?_, fun _ => k1 xs w4 hI hxl hB⟩, fun _ => k1 xs w4 hI hxl hB⟩
  have hlt' : i < ops.length := by omega
  obtain ⟨a, ca, he, hcell⟩ := op_cells hops hlt'
  injection he with he1 _ _
  subst he1
  generalize ops[i] = o at *
  obtain ⟨c0, c1, c2⟩ := hcell w4 hB.upd
  have hne : ∃ w', Upd w w' [] := ⟨_, hB.upd⟩
  have d1 : ∀ w', Upd w w' [] → w'.cell? ((a.add (i * 3)).add 1) = some (.int .i64 o.page) := fun w' h => (hcell w' h).2.1
  have d2 : ∀ w', Upd w w' [] → w'.cell? ((a.add (i * 3)).add 2) = some (.int .i64 o.inst) := fun w' h => (hcell w' h).2.2
  have hBd : Bk w [] gb xs w4.drew := hB.ext (Upd.drew w4 [])
  have next : ∀ (xs' : List Lf) (w' : World), Inv xs' → xs'.length = xs.length → Bk w [] gb xs' w' →
      flotillalaw20_OwnTurns_k9 (std Try.prog) vs (fun vs' w' => (∃ (i : Nat) (xs : List Lf), i ≤ ops.length ∧ vs'.getD 0 undef = .int .i64 i ∧ Inv xs ∧ xs.length = pn ∧ Bk w [] gb xs w') ∧ ops.length - (intOf (vs'.getD 0 undef)).toNat < ops.length - (intOf (Value.int .i64 (i : Int))).toNat) w' fun r w' => r = .bool true ∧ Upd w w' [] := by
    intro xs' w' hI' hl' hB'
    unfold flotillalaw20_OwnTurns_k9
    simp (disch := omega) only [e0, PX, w64]
    refine ⟨⟨i + 1, xs', by omega, rfl, hI', by omega, hB'⟩, ?_⟩
    simp only [List.getD_cons_zero, intOf]; omega
  simp (disch := first | assumption | omega) only [PX, BX, LX]
  refine ⟨fun h0 => ?_, fun h0 => ⟨fun h1 => ?_, fun h1 => ⟨fun h2 => ?_, fun h2 => ⟨fun h3 => ?_, fun h3 => next xs w4 hI rfl hB⟩⟩⟩⟩
  · refine st_draw (fun w' => Upd w w' []) hBd.upd ?_
    simp (disch := first | assumption | omega) only [SX, SLX]
    refine st_call (Need_spec hBd hI.n900 o.page o.inst) ?_
    rintro _ w6 ⟨ro, ho, rfl, hor, hB6, hho⟩
    refine st_keepT (fun _ => True) trivial ?_
    have := need_law hI o.page o.inst
    exact next _ w6 this.1 this.2.1 hB6.drop
  · refine st_draw (fun w' => Upd w w' []) hBd.upd ?_
    simp (disch := first | assumption | omega) only [SX, SLX]
    refine st_call (Back_spec hBd hI.n900 o.page o.inst) ?_
    rintro _ w6 ⟨ro, ho, rfl, hor, hB6, hho⟩
    refine st_keepT (fun _ => True) trivial ?_
    have := back_law hI o.page o.inst
    exact next _ w6 this.1 this.2.1 hB6.drop
  · refine st_call (Fail_spec hB (by have := hI.1; omega) hI.n900 o.inst) ?_
    rintro rg w6 ⟨hr, hrow, hB6, hhr⟩
    exact next _ w6 (fail_inv hI _) (fail_length _ _) hB6.drop
  · refine st_call (Mend_spec hB hI.n900 o.page) ?_
    rintro _ w6 ⟨ro, ho, rfl, hor, hB6, hho⟩
    have := mend_law hI o.page
    exact next _ w6 this.1 this.2.1 hB6.drop
end Go.Proofs.Ytilfkccahlkcaaa
