/- OwnOne. -/
import Derived.Test.YtilfkccahlkcaaaS12
import Derived.Deep.Grids
import Derived.WideShapes
namespace Go.Proofs.Ytilfkccahlkcaaa
open Go Xf Go.RowKit Go.WideShapes
set_option linter.unusedVariables false
set_option linter.unusedSimpArgs false
set_option maxRecDepth 100000

theorem bools_of_trod {H : Type} {enc : TypeId × Value → H} {w : World} {held : Bool} {r : Reach} {b0 : Nat} {v : Value} {d : DataW H} {p : List MemPlace} (hv : Value.okWide Try.prog w r b0 22 v) (h : DataW.Trod enc Try.prog w 0 (fun _ => true) held 22 v d p) :
    ∃ fl : List Bool, v = v ∧ (fl.length ≤ maxLen ∧ Rd w 1 v fl.length (boolsV fl)) := by
  obtain ⟨a, len, cap, rfl⟩ := okWide_slice u22 hv
  obtain ⟨fuel, hf⟩ := h
  rcases Go.Deep.open_bools u22 u4 (by kernel_rfl) hf with ⟨hcs, _⟩ | ⟨x, n, c, B, hcs, _, hl, hm, _, hcell⟩
  · simp [Value.cells] at hcs
    obtain ⟨rfl, rfl, rfl⟩ := hcs
    exact ⟨[], rfl, Nat.zero_le _, Rd.nil_ _ _⟩
  · simp [Value.cells] at hcs
    obtain ⟨rfl, rfl, rfl⟩ := hcs
    have hlen : ((List.range len).map B).length = len := by simp
    refine ⟨(List.range len).map B, rfl, by rw [hlen]; omega, ?_⟩
    rw [hlen]
    refine ⟨some x, cap, rfl, hl, by simp [boolsV], fun j u hu => ⟨x, rfl, ?_⟩⟩
    have hj : j < len := by
      have := (List.getElem?_eq_some_iff.1 hu).1
      simpa [boolsV] using this
    simp [boolsV, hj] at hu
    rw [hcell j (by omega), hu]

section
variable {W w : World} {X Y ho : List (Nat × Obj)} {gb gO gL : Nat} {xs : List Lf} {own : List Int} {lost : List Bool}
theorem store_own {K : Value → World → Prop} {p : Nat} {x : Int} (hB : Bk W (Y ++ FF gO gL own lost) gb xs w) (hl : own.length = 16) (hp : p < 16) (hg : W.heap.size ≤ gO)
    (hk : ∀ w', Bk W (Y ++ FF gO gL (own.set p x) lost) gb xs w' → K undef w') : (std Try.prog).step (sStore 3 (.pointer (some ⟨gO, p, none⟩)) (.int .i64 x)) w K := by
  obtain ⟨R, hO, hcl⟩ := (hB.perm List.perm_append_comm).open
  refine st_storeB sz3 rfl hB.upd hO 1 rfl (by simp [intsV, hl, hp]) (.inr (Nat.zero_le _)) (.inr hg) ?_
  intro w2 hU2 hO2
  refine hk w2 ((hcl (FF gO gL (own.set p x) lost ++ Y) w2 ?_ hU2).perm List.perm_append_comm)
  rw [List.setIfInBounds_toArray] at hO2
  unfold FF
  rw [show intsV .i64 (own.set p x) = (intsV .i64 own).set p (.int .i64 x) by simp [intsV, List.map_set]]
  exact hO2
theorem store_lost {K : Value → World → Prop} {p : Nat} {x : Bool} (hB : Bk W (Y ++ FF gO gL own lost) gb xs w) (hl : lost.length = 16) (hp : p < 16) (hg : W.heap.size ≤ gL)
    (hk : ∀ w', Bk W (Y ++ FF gO gL own (lost.set p x)) gb xs w' → K undef w') : (std Try.prog).step (sStore 4 (.pointer (some ⟨gL, p, none⟩)) (.bool x)) w K := by
  obtain ⟨R, hO, hcl⟩ := (hB.perm List.perm_append_comm).open
  refine st_storeB sz4 rfl hB.upd hO 0 rfl (by simp [boolsV, hl, hp]) (.inr (Nat.zero_le _)) (.inr hg) ?_
  intro w2 hU2 hO2
  refine hk w2 ((hcl (FF gO gL own (lost.set p x) ++ Y) w2 ?_ hU2).perm List.perm_append_comm)
  rw [List.setIfInBounds_toArray] at hO2
  unfold FF
  rw [show boolsV (lost.set p x) = (boolsV lost).set p (.bool x) by simp [boolsV, List.map_set]]
  exact hO2

theorem one_k3 {os : List Od} {e : Int} {ro : Value} {vs : List Value} {again : List Value → World → Prop} {Q : Value → World → Prop}
    (hB : Bk W (ho ++ (X ++ FF gO gL own (lostA xs))) gb xs w) (hl : own.length = 16) (ht : toldL own os = some (ownA xs)) (hc : os.length ≤ 2) (hr : OrdR ro os ho) (hI : Inv xs) (hgO : W.heap.size ≤ gO) (he : e ≠ 0 → os = [])
    (hk : ∀ w', Bk W (FF gO gL (ownA xs) (lostA xs)) gb xs w' → flotillalaw20_OwnOne_k2 (std Try.prog) vs again w' Q) :
    flotillalaw20_OwnOne_k3 (std Try.prog) (.pointer (some ⟨gb, 0, none⟩)) (.pointer (some ⟨gO, 0, none⟩)) (.pointer (some ⟨gL, 0, none⟩)) vs again ro (.int .i64 e) w Q := by
  unfold flotillalaw20_OwnOne_k3
  have h4 := one_k4 (vs := vs) (again := again) (Q := Q) hB hl ht hc hr hI hgO hk
  obtain ⟨A, c, rfl⟩ := (hr.rd hB.F).len
  simp only [PX, BX]
  refine ⟨fun h0 => ⟨fun h1 => ?_, fun _ => h4⟩, fun _ => h4⟩
  rw [he h0] at h1
  simp at h1
end

theorem OwnOne_spec (w : World) {v : Value} {fl : List Bool} (hv : Rd w 1 v fl.length (boolsV fl)) {vo : Value} {ops : List Op3} (hops : RdS w opV 3 vo ops) (pages : Int) :
    CallsR Try.prog 3 #[.int .i64 pages, v, vo] w fun r w' => r = .bool true ∧ Upd w w' [] := by
  apply flotillalaw20_OwnOne_sound
  unfold flotillalaw20_OwnOne_x
  have liv : ∀ w', Upd w w' [] → (std Try.prog).calls 9 #[] w' fun v w2 => v = .bool true ∧ Upd w w2 [] := fun w' hU => st_call (lives_spec w') fun v w2 h => ⟨h.1, hU.trans h.2⟩
  obtain ⟨A, c, rfl, hcc, _, _⟩ := id hv
  obtain ⟨Ao, co, rfl, hmo, _⟩ := id hops
  simp (disch := omega) only [PX, BX]
  refine ⟨fun _ => liv w (Upd.refl w []), fun _ => ?_⟩
  refine st_call (New_spec (F := []) (Upd.refl w []) (Owns.nil w) (fun w' hU' _ => hv.mono hU') pages) ?_
  intro r w1 hr
  unfold NewR at hr
  split at hr
  · obtain ⟨rfl, hU1, _⟩ := hr
    simp (disch := omega) only [PX, NP, BX]
    exact ⟨fun _ => liv w1 hU1, fun h => absurd (by decide) h⟩
  rename_i hpg
  obtain ⟨gb, rfl, hB⟩ := hr
  simp (disch := omega) only [PX, NP, BX]
  refine ⟨fun h => absurd rfl h, fun _ => ?_⟩
  obtain ⟨pn, rfl⟩ : ∃ n : Nat, pages = n := ⟨pages.toNat, by omega⟩
  rw [Int.toNat_natCast] at hB
  obtain ⟨R, hO, hcl⟩ := hB.open
  refine st_alloc ze29 hB.upd hO ?_
  intro gO w2 hU2 hO2 hgO
  refine st_alloc ze30 hU2 hO2 ?_
  intro gL w3 hU3 hO3 hgL
  have hB3 : Bk w (FF gO gL (ownA (newL pn fl)) (lostA (newL pn fl))) gb (newL pn fl) w3 := by
    refine hcl _ w3 ?_ hU3
    unfold FF
    rw [ownA_new, lostA_new]
    exact hO3
  clear hB hO hcl hU2 hO2 hU3 hO3
  refine st_loop (fun vs w' => ∃ (i : Nat) (xs : List Lf), i ≤ ops.length ∧ vs.getD 0 undef = .int .i64 i ∧ Inv xs ∧ Bk w (FF gO gL (ownA xs) (lostA xs)) gb xs w') (fun vs _ => ops.length - (intOf (vs.getD 0 undef)).toNat)
    ⟨0, newL pn fl, by omega, rfl, Inv.new (by omega) fl, hB3⟩ ?_
  clear hB3
  rintro dv vs w4 - ⟨i, xs, hi, e0, hI, hB⟩
  simp (disch := omega) only [e0, PX, BX, flotillalaw20_OwnOne_k1]
  refine ⟨fun hlt => ⟨fun h100 => ?_, fun _ => liv w4 hB.upd⟩, fun _ => liv w4 hB.upd⟩
  have hlt' : i < ops.length := by omega
  obtain ⟨R, hO, hcl⟩ := hB.open
  refine st_op hops hlt' hB.upd hO ?_
  intro g12 w5 hU5 hO5 hg12
  generalize ops[i] = o at *
  let OB : Nat × Obj := (g12, .cells #[.int .i64 o.kind, .int .i64 o.page, .int .i64 o.inst] 32 (0, 0))
  have hB5 : Bk w ([OB] ++ FF gO gL (ownA xs) (lostA xs)) gb xs w5 := hcl _ w5 hO5 hU5
  clear hB hO hcl hU5 hO5
  have c0 : w5.cell? ⟨g12, 0, none⟩ = some (.int .i64 o.kind) := cell_at (hB5.F.at_ 0 rfl)
  have c1 : w5.cell? ⟨g12, 1, none⟩ = some (.int .i64 o.page) := cell_at (hB5.F.at_ 0 rfl)
  have c2 : w5.cell? ⟨g12, 2, none⟩ = some (.int .i64 o.inst) := cell_at (hB5.F.at_ 0 rfl)
  have next : ∀ (xs' : List Lf) (w' : World), Inv xs' → Bk w (FF gO gL (ownA xs') (lostA xs')) gb xs' w' →
      flotillalaw20_OwnOne_k2 (std Try.prog) vs (fun vs' w' => (∃ (i : Nat) (xs : List Lf), i ≤ ops.length ∧ vs'.getD 0 undef = .int .i64 i ∧ Inv xs ∧ Bk w (FF gO gL (ownA xs) (lostA xs)) gb xs w') ∧ ops.length - (intOf (vs'.getD 0 undef)).toNat < ops.length - (intOf (Value.int .i64 (i : Int))).toNat) w' fun r w' => r = .bool true ∧ Upd w w' [] := by
    intro xs' w' hI' hB'
    unfold flotillalaw20_OwnOne_k2
    simp (disch := omega) only [e0, PX, w64]
    refine ⟨⟨i + 1, xs', by omega, rfl, hI', hB'⟩, ?_⟩
    simp only [List.getD_cons_zero, intOf]; omega
  simp (disch := first | assumption | omega) only [PX, BX, LX, add_mk, Nat.zero_add]
  refine ⟨fun h0 => ?_, fun h0 => ⟨fun h1 => ?_, fun h1 => ⟨fun h2 => ?_, fun h2 => ⟨fun h3 => ?_, fun h3 => ?_⟩⟩⟩⟩
  · -- need
    refine st_call (Need_spec hB5 hI.n900 o.page o.inst) ?_
    rintro _ w6 ⟨ro, ho, rfl, hor, hB6, hho⟩
    obtain ⟨q1, q2, q3, q4, q5⟩ := need_law hI o.page o.inst
    simp only [PX]
    rw [← q4] at hB6
    exact one_k3 hB6 (ownA_len xs) q3 (need_count _ _ _) hor q1 hgO q5 fun w' hB' => next _ w' q1 hB'
  · -- back
    refine st_call (Back_spec hB5 hI.n900 o.page o.inst) ?_
    rintro _ w6 ⟨ro, ho, rfl, hor, hB6, hho⟩
    obtain ⟨q1, q2, q4, q5⟩ := back_law hI o.page o.inst
    rw [← q4] at hB6
    have hcnt := back_count xs o.page o.inst
    generalize backL xs o.page o.inst = p at *
    simp only [PX, BX]
    rcases q5 with ⟨r1, r2, r3⟩ | ⟨r1, p', hp', hpl, hown, hto⟩
    · refine ⟨fun h => absurd h r1, fun _ => ?_⟩
      refine one_k3 hB6 (ownA_len xs) ?_ hcnt hor q1 hgO (fun _ => r2) fun w' hB' => next _ w' q1 hB'
      rw [r2, r3]; rfl
    · refine ⟨fun _ => ?_, fun h => absurd r1 h⟩
      have hp16 : p' < 16 := by have := hI.1; omega
      rw [hp'] at c1 hown
      have hB7 : Bk w (ho ++ ([OB] ++ FF gO gL (ownA xs) (lostA p.1))) gb p.1 w6.drew := hB6.ext (Upd.drew w6 [])
      let S : World → Prop := fun w' => Owns w' ([OB] ++ FF gO gL (ownA xs) (lostA p.1))
      have hS : S w6.drew := hB7.F.sub (List.sublist_append_right _ _)
      have hne : ∃ w', S w' := ⟨_, hS⟩
      have d1 : ∀ w', S w' → w'.cell? ⟨g12, 1, none⟩ = some (.int .i64 (p' : Int)) := fun w' h => by rw [← hp']; exact cell_at (h.at_ 0 rfl)
      have d2 : ∀ w', S w' → w'.cell? ⟨g12, 2, none⟩ = some (.int .i64 o.inst) := fun w' h => cell_at (h.at_ 0 rfl)
      have dO : ∀ w', S w' → w'.cell? ⟨gO, p', none⟩ = some (.int .i64 o.inst) := fun w' h => by rw [← hown]; exact FF_own (h.sub (List.sublist_cons_self _ _)) (ownA_at xs hp16)
      refine st_draw S hS ?_
      simp (disch := first | assumption | omega) only [ia29S, SX, SLX, BX, add_mk, Nat.zero_add]
      refine ⟨fun h => absurd h (by omega), fun _ => ⟨fun h => absurd h (by omega), fun _ => ⟨fun h => absurd rfl h, fun _ => ?_⟩⟩⟩
      have c1 := d1 _ hS
      simp (disch := first | assumption | omega) only [ia29, PX, BX, LX, add_mk, Nat.zero_add]
      rw [← List.append_assoc] at hB7
      refine store_own hB7 (ownA_len xs) hp16 hgO ?_
      intro w8 hB8
      rw [List.append_assoc] at hB8
      exact one_k3 hB8 (by rw [List.length_set, ownA_len]) hto hcnt hor q1 hgO (fun h => absurd r1 h) fun w' hB' => next _ w' q1 hB'
  · -- fail
    refine st_call (Fail_spec hB5 (by have := hI.1; omega) hI.n900 o.inst) ?_
    rintro rg w6 ⟨hr, hrow, hB6, hhr⟩
    have hcnt := fail_count hI o.inst
    have hIf := fail_inv hI o.inst
    have hfo := fail_own hI o.inst
    have hfl := fail_lost hI o.inst
    have hhad := fun k (hk : k < (failL xs o.inst).2.length) => fail_had hI o.inst hk
    generalize hfe : failL xs o.inst = p at *
    obtain ⟨Ag, cg, hrg, _⟩ := hrow.rd (F := [OB] ++ FF gO gL (ownA xs) (lostA xs)) hB6.F
    subst hrg
    refine st_loop (fun vs w' => ∃ k : Nat, k ≤ p.2.length ∧ vs.getD 0 undef = .int .i64 k ∧ Bk w (hr ++ ([OB] ++ FF gO gL (ownF xs (p.2.take k)) (lostF xs (p.2.take k)))) gb p.1 w') (fun vs _ => p.2.length - (intOf (vs.getD 0 undef)).toNat)
      ⟨0, by omega, rfl, by rw [List.take_zero, ownF_nil, lostF_nil]; exact hB6⟩ ?_
    clear hB6
    rintro dv3 vs3 w7 - ⟨k, hk, e3, hB7⟩
    simp (disch := omega) only [e3, PX, BX]
    refine ⟨fun hlt => ?_, fun hge => ?_⟩
    · have hlt' : k < p.2.length := by omega
      obtain ⟨pg, hp16, hpl, hpe, hown, hnm⟩ := hhad k hlt'
      have hB8 : Bk w (hr ++ ([OB] ++ FF gO gL (ownF xs (p.2.take k)) (lostF xs (p.2.take k)))) gb p.1 w7.drew := hB7.ext (Upd.drew w7 [])
      let S : World → Prop := fun w' => Owns w' (hr ++ ([OB] ++ FF gO gL (ownF xs (p.2.take k)) (lostF xs (p.2.take k))))
      have hS : S w7.drew := hB8.F
      have hne : ∃ w', S w' := ⟨_, hS⟩
      have hrd : ∀ w', S w' → ∃ a, Ag = some a ∧ w'.cell? (a.add k) = some (.int .i64 (pg : Int)) := by
        intro w' h
        obtain ⟨A', c', he, _, _, hx⟩ := hrow.rd h
        injection he with he1 _ _
        subst he1
        exact hx k (.int .i64 (pg : Int)) (by simp [intsV, hlt', hpe])
      obtain ⟨a, rfl, _⟩ := hrd _ hS
      have dg : ∀ w', S w' → w'.cell? (a.add k) = some (.int .i64 (pg : Int)) := fun w' h => by
        obtain ⟨a', he, hx⟩ := hrd w' h
        injection he with he
        rw [he]; exact hx
      have sS : ∀ {w'}, S w' → Owns w' ([OB] ++ FF gO gL (ownF xs (p.2.take k)) (lostF xs (p.2.take k))) := fun h => h.sub (List.sublist_append_right _ _)
      have d2 : ∀ w', S w' → w'.cell? ⟨g12, 2, none⟩ = some (.int .i64 o.inst) := fun w' h => cell_at ((sS h).at_ 0 rfl)
      have dO : ∀ w', S w' → w'.cell? ⟨gO, pg, none⟩ = some (.int .i64 o.inst) := fun w' h => by
        have := ownF_at xs (p.2.take k) hp16
        rw [if_neg hnm, hown] at this
        exact FF_own ((sS h).sub (List.sublist_cons_self _ _)) this
      refine st_draw S hS ?_
      simp (disch := first | assumption | omega) only [ia29S, SX, SLX, BX, add_mk, Nat.zero_add, Nat.mul_one]
      refine ⟨fun h => absurd h (by omega), fun _ => ⟨fun h => absurd h (by omega), fun _ => ⟨fun h => absurd rfl h, fun _ => ?_⟩⟩⟩
      have cg1 := dg _ hS
      simp (disch := first | assumption | omega) only [ia29, PX, BX, LX, add_mk, Nat.zero_add, Nat.mul_one]
      rw [← List.append_assoc] at hB8
      refine store_own hB8 (ownF_len _ _) hp16 hgO ?_
      intro w9 hB9
      have hrd9 : w9.cell? (a.add k) = some (.int .i64 (pg : Int)) := by
        have hF9 := hB9.F
        rw [List.append_assoc] at hF9
        obtain ⟨A', c', he, _, _, hx⟩ := hrow.rd hF9
        injection he with he1 _ _
        subst he1
        obtain ⟨a', ha', hx⟩ := hx k (.int .i64 (pg : Int)) (by simp [intsV, hlt', hpe])
        injection ha' with ha'
        rw [ha']; exact hx
      simp (disch := first | assumption | omega) only [ia30, PX, BX, LX, add_mk, Nat.zero_add, Nat.mul_one]
      refine store_lost hB9 (lostF_len _ _) hp16 hgL ?_
      intro w10 hB10
      rw [List.append_assoc] at hB10
      simp (disch := omega) only [e3, PX, w64]
      refine ⟨⟨k + 1, by omega, rfl, ?_⟩, ?_⟩
      · rw [List.take_succ_eq_append_getElem hlt', hpe, ownF_set _ _ hp16, lostF_set _ _ hp16]
        exact hB10
      · simp only [List.getD_cons_zero, intOf]; omega
    · have : k = p.2.length := by omega
      subst this
      rw [List.take_length, hfo, hfl, ← List.append_assoc] at hB7
      exact one_k3 (ho := []) hB7 (ownA_len _) (os := []) rfl (by simp) ordR_nil hIf hgO (fun h => absurd rfl h) fun w' hB' => next _ w' hIf hB'
  · -- mend
    refine st_call (Mend_spec hB5 hI.n900 o.page) ?_
    rintro _ w6 ⟨ro, ho, rfl, hor, hB6, hho⟩
    obtain ⟨q1, q2, q4, q5⟩ := mend_law hI o.page
    have hcnt := mend_count xs o.page
    generalize mendL xs o.page = p at *
    simp only [PX, BX]
    rcases q5 with ⟨r1, r2, r3⟩ | ⟨r1, p', hp', hpl, hown, hto⟩
    · refine ⟨fun h => absurd h r1, fun _ => ?_⟩
      rw [r3] at hB6 q4
      refine one_k3 hB6 (ownA_len xs) q4 hcnt hor hI hgO (fun _ => r2) fun w' hB' => next _ w' hI hB'
    · refine ⟨fun _ => ?_, fun h => absurd r1 h⟩
      have hp16 : p' < 16 := by have := hI.1; omega
      rw [hp'] at hown
      have hF6 := hB6.F.sub (List.sublist_append_right _ _)
      have c1 : w6.cell? ⟨g12, 1, none⟩ = some (.int .i64 (p' : Int)) := by rw [← hp']; exact cell_at (hF6.at_ 0 rfl)
      have cL : w6.cell? ⟨gL, p', none⟩ = some (.bool true) := by rw [← hown]; exact FF_lost (hF6.sub (List.sublist_cons_self _ _)) (lostA_at xs hp16)
      simp (disch := first | assumption | omega) only [ia30, PX, BX, LX, add_mk, Nat.zero_add, Bool.not_true]
      refine ⟨fun h => absurd h (by omega), fun _ => ⟨fun h => absurd h (by omega), fun _ => ?_⟩⟩
      rw [← List.append_assoc] at hB6
      refine store_lost hB6 (lostA_len xs) hp16 hgL ?_
      intro w8 hB8
      rw [List.append_assoc, ← hto] at hB8
      exact one_k3 hB8 (ownA_len xs) q4 hcnt hor q1 hgO (fun h => absurd r1 h) fun w' hB' => next _ w' q1 hB'
  · exact one_k3 (ho := []) (X := [OB]) hB5 (ownA_len _) (os := []) rfl (by simp) ordR_nil hI hgO (fun h => absurd rfl h) fun w' hB' => next _ w' hI hB'
end Go.Proofs.Ytilfkccahlkcaaa
