/- alike; OwnPlays. -/
import Derived.Test.YtilfkccahlkcaaaS23
namespace Go.Proofs.Ytilfkccahlkcaaa
open Go Xf Go.RowKit Go.WideShapes
set_option linter.unusedVariables false
set_option linter.unusedSimpArgs false
set_option maxRecDepth 100000

theorem bld68z (w : World) : (sBuild 68 []).run Try.prog w = .ok (.value (.agg (rowL (lf0, .slice none 0 0)).toArray)) w := by kernel_rfl
theorem has_nine {xs : List Lf} (hI : Inv xs) (k : Nat) (hk : k ≤ 9) : hasL xs k = if 0 < k then hasUp xs k xs.length else [] := by
  unfold hasL
  by_cases h8 : 1 ≤ (k : Int) ∧ (k : Int) ≤ 8
  · rw [if_pos h8, if_pos (by omega)]
  · rw [if_neg h8]
    split
    · have h9 : k = 9 := by omega
      subst h9
      symm
      apply List.eq_nil_iff_forall_not_mem.2
      intro j hj
      obtain ⟨q, h1, h2, h3⟩ := mem_hasUp.1 hj
      have := (hI.at_ (q : Int)).ob
      omega
    · rfl

theorem alike_k5 {W w w0 : World} {F : List (Nat × Obj)} {gb g6 : Nat} {xs : List Lf} {u : Value} {i : Int} {vs : List Value} {again : List Value → World → Prop} {Q : Value → World → Prop}
    (hI : Inv xs) (hB : Bk W ((g6, Obj.cells (rowL (lfAt xs i, u)).toArray 68 (0, 0)) :: F) gb xs w) (hu : ∀ w', Owns w' F → RdN w' u (lfAt xs i).waits) (e0 : vs.getD 0 undef = .int .i64 i)
    (hk : ∀ w', Bk W F gb xs w' → (std Try.prog).step (sBin .add 3 (.tmp 14) (.const (.int .i64 1)) (.int .i64 i) (.int .i64 1)) w' fun v15_1 w => again [v15_1] w) :
    flotillalaw20_alike_k5 (std Try.prog) (.pointer (some ⟨gb, 0, none⟩)) vs again (.pointer (some ⟨g6, 0, none⟩)) w Q := by
  unfold flotillalaw20_alike_k5
  rw [e0]
  generalize hxe : lfAt xs i = x at *
  have hBd := hB.ext (Upd.drew w [])
  let S : World → Prop := fun w' => Owns w' ((g6, Obj.cells (rowL (x, u)).toArray 68 (0, 0)) :: F)
  have hS : S w.drew := hBd.F
  have hne : ∃ w', S w' := ⟨_, hS⟩
  have d0 : ∀ w', S w' → w'.cell? ⟨g6, 0, none⟩ = some (.int .i64 x.owner) := fun w' h => cell_at (h.at_ 0 rfl)
  have d1 : ∀ w', S w' → w'.cell? ⟨g6, 1, none⟩ = some (.bool x.lost) := fun w' h => cell_at (h.at_ 0 rfl)
  have d3 : ∀ w', S w' → w'.cell? ⟨g6, 3, none⟩ = some (.bool x.fast) := fun w' h => cell_at (h.at_ 0 rfl)
  have d4 : ∀ w', S w' → w'.cell? ⟨g6, 4, none⟩ = some u := fun w' h => cell_at (h.at_ 0 rfl)
  refine st_draw S hS ?_
  simp (disch := first | assumption | omega) only [SX, SLX, add_mk, Nat.zero_add]
  refine st_call (Owner_spec hBd i) ?_
  rintro _ w2 ⟨rfl, he⟩
  subst w2
  refine st_same hS ?_
  rw [hxe]
  simp (disch := first | assumption | omega) only [SX, SLX, BX, add_mk, Nat.zero_add]
  refine ⟨fun h => absurd rfl h, fun _ => ?_⟩
  refine st_call (Lost_spec hBd i) ?_
  rintro _ w2 ⟨rfl, he⟩
  subst w2
  refine st_same hS ?_
  rw [hxe]
  simp (disch := first | assumption | omega) only [SX, SLX, BX, add_mk, Nat.zero_add, beq_self_eq_true, Bool.not_true]
  refine st_call (Fast_spec hBd i) ?_
  rintro _ w2 ⟨rfl, he⟩
  subst w2
  refine st_same hS ?_
  rw [hxe]
  simp (disch := first | assumption | omega) only [SX, SLX, BX, add_mk, Nat.zero_add, beq_self_eq_true, Bool.not_true]
  refine st_call (Waits_spec hBd hI.n900 i) ?_
  rintro r w2 ⟨hr, hrow, hB2, _⟩
  rw [hxe] at hrow
  refine st_same (hB2.drop.F) ?_
  have hw8 : x.waits.length ≤ 8 := by rw [← hxe]; exact (hI.at_ i).len
  refine st_call (Same_spec (hrow.rd hB2.F) (hu w2 (hB2.drop.F.sub (List.sublist_cons_self _ _))) (by omega)) ?_
  rintro _ w3 ⟨rfl, hU3⟩
  rw [decide_eq_true rfl]
  refine st_keepT (fun _ => True) trivial ?_
  have hneT : ∃ w', (fun _ : World => True) w' := ⟨w3, trivial⟩
  simp (disch := first | assumption | omega) only [SX, BX, Bool.not_true]
  exact hk w3 ((hB2.ext hU3).drop.sub (List.sublist_cons_self _ _))

theorem alike_spec {W w : World} {F : List (Nat × Obj)} {gb : Nat} {xs : List Lf} {v : Value} (hB : Bk W F gb xs w) (hR : Ref F v xs) (hI : Inv xs) :
    CallsR Try.prog 24 #[.pointer (some ⟨gb, 0, none⟩), v] w fun r w' => r = .bool true ∧ Bk W F gb xs w' := by
  apply flotillalaw20_alike_sound
  unfold flotillalaw20_alike_x
  have h16 := hI.1
  obtain ⟨es, hes, hRE⟩ := hR
  have hel : es.length = xs.length := by rw [← hes, List.length_map]
  obtain ⟨A, c, rfl, _⟩ := (hRE w hB.F).len
  rw [hel] at hRE ⊢
  refine st_loop (fun vs w' => ∃ n : Nat, n ≤ xs.length + 2 ∧ vs.getD 0 undef = .int .i64 ((n : Int) - 1) ∧ Bk W F gb xs w') (fun vs _ => (xs.length + 2 : Nat) - ((intOf (vs.getD 0 undef)) + 1).toNat) ⟨0, by omega, rfl, hB⟩ ?_
  clear hB
  rintro dv vs w1 - ⟨n, hn, e0, hB⟩
  simp (disch := omega) only [e0, PX, BX]
  have next : ∀ w', Bk W F gb xs w' → ((n : Int) - 1 ≤ (xs.length : Int)) → (std Try.prog).step (sBin .add 3 (.tmp 14) (.const (.int .i64 1)) (.int .i64 ((n : Int) - 1)) (.int .i64 1)) w' fun v15_1 w => (∃ n : Nat, n ≤ xs.length + 2 ∧ [v15_1].getD 0 undef = .int .i64 ((n : Int) - 1) ∧ Bk W F gb xs w) ∧ (xs.length + 2 : Nat) - ((intOf ([v15_1].getD 0 undef)) + 1).toNat < (xs.length + 2 : Nat) - ((intOf (Value.int .i64 ((n : Int) - 1))) + 1).toNat := by
    intro w' hB' hle
    simp (disch := omega) only [PX, w64]
    refine ⟨⟨n + 1, by omega, ?_, hB'⟩, ?_⟩
    · simp only [List.getD_cons_zero]
      congr 1
      omega
    · simp only [List.getD_cons_zero, intOf]; omega
  refine ⟨fun hle => ?_, fun hgt => ?_⟩
  · rw [step_run (bld68z w1)]
    obtain ⟨R, hO, hcl⟩ := hB.open
    refine st_alloc ze68 hB.upd hO ?_
    intro g6 w2 hU2 hO2 hg6
    refine st_storeN (vs := rowL (lf0, .slice none 0 0)) (by rw [sz68]; rfl) hU2 hO2 0 rfl (by simp [Value.cells, rowL]) (rowL_one rfl) (.inr hg6) ?_
    intro w3 hU3 hO3
    have hO3 : Owns w3 ((g6, Obj.cells (rowL (lf0, .slice none 0 0)).toArray 68 (0, 0)) :: (F ++ R)) := hO3
    have outside : lfAt xs ((n : Int) - 1) = lf0 → flotillalaw20_alike_k5 (std Try.prog) (.pointer (some ⟨gb, 0, none⟩)) vs (fun vs' w' => (∃ n : Nat, n ≤ xs.length + 2 ∧ vs'.getD 0 undef = .int .i64 ((n : Int) - 1) ∧ Bk W F gb xs w') ∧ (xs.length + 2 : Nat) - ((intOf (vs'.getD 0 undef)) + 1).toNat < (xs.length + 2 : Nat) - ((intOf (Value.int .i64 ((n : Int) - 1))) + 1).toNat) (.pointer (some ⟨g6, 0, none⟩)) w3 fun r w' => r = .bool true ∧ Bk W F gb xs w' := by
      intro hlf
      refine alike_k5 (w0 := w3) (u := .slice none 0 0) (i := (n : Int) - 1) hI ?_ (fun w' _ => ?_) e0 fun w' hB' => next w' hB' hle
      · rw [hlf]
        exact hcl _ w3 hO3 hU3
      · rw [hlf]; exact Rd.nil_ _ _
    refine ⟨fun h0 => ⟨fun hlt => ?_, fun hlt => outside (lfAt_out (by omega))⟩, fun h0 => outside (lfAt_out (by omega))⟩
    obtain ⟨i, hi⟩ : ∃ i : Nat, (n : Int) - 1 = i := ⟨((n : Int) - 1).toNat, by omega⟩
    have hix : i < xs.length := by omega
    have hie : i < es.length := by omega
    have hOF : Owns w3 F := hO3.sub (.cons _ (List.sublist_append_left F R))
    have hRA := hRE w3 hOF
    obtain ⟨a, _, he, hx⟩ := hRA.at_ hie
    injection he with he _ _
    subst he
    rw [hi]
    rw [step_run (run_idxS u52 sz68 (by omega) (by omega)), show (i : Int).toNat * 5 = i * 5 by omega]
    refine st_loadN (cs := rowL es[i]) ag68 sz68 hx ?_
    have hxe : es[i].1 = lfAt xs (i : Int) := by rw [lfAt_nat hix]; subst hes; simp
    have hue : ∀ w', Owns w' F → RdN w' es[i].2 (lfAt xs (i : Int)).waits := fun w' h => by rw [← hxe]; exact (hRE w' h).2 _ (List.getElem_mem hie)
    have hone : oneB es[i].2 = true := by
      obtain ⟨A, c', h1⟩ := (hue w3 hOF).len
      rw [h1]; rfl
    refine st_storeN (vs := rowL es[i]) (by rw [sz68]; rfl) hU3 hO3 0 rfl (by simp [rowL]) (rowL_one hone) (.inr hg6) ?_
    intro w4 hU4 hO4
    have hO4 : Owns w4 ((g6, Obj.cells (rowL (lfAt xs (i : Int), es[i].2)).toArray 68 (0, 0)) :: (F ++ R)) := by
      rw [← hxe]; exact hO4
    rw [hi] at next e0
    exact alike_k5 (w0 := w4) hI (hcl _ w4 hO4 hU4) hue e0 fun w' hB' => next w' hB' (by omega)
  · clear next
    unfold flotillalaw20_alike_k1
    refine st_loop (fun vs w' => ∃ k : Nat, k ≤ 10 ∧ vs.getD 0 undef = .int .i64 k ∧ Bk W F gb xs w') (fun vs _ => 10 - (intOf (vs.getD 0 undef)).toNat) ⟨0, by omega, rfl, hB⟩ ?_
    clear hB e0
    clear w1
    rintro dv vs1 w1 - ⟨k, hk, e0, hB⟩
    simp (disch := omega) only [e0, PX, BX]
    refine ⟨fun hle => ?_, fun hgt => ?_⟩
    rotate_left
    · unfold flotillalaw20_alike_k2
      exact ⟨rfl, hB⟩
    have hnine := has_nine hI k (by omega)
    refine st_loop (fun vs w' => ∃ (i : Nat) (h1 : List (Nat × Obj)), i ≤ xs.length ∧ vs.getD 1 undef = .int .i64 i ∧ RowH 3 1 (vs.getD 0 undef) (if 0 < k then hasUp xs k i else []).length (intsV .i64 (if 0 < k then hasUp xs k i else [])) h1 ∧ Bk W (h1 ++ F) gb xs w' ∧ ∀ q ∈ h1, W.heap.size ≤ q.1)
      (fun vs _ => xs.length - (intOf (vs.getD 1 undef)).toNat) ⟨0, [], by omega, rfl, by split <;> exact RowH.nil_ _ _, hB, fun q hq => by cases hq⟩ ?_
    clear hB
    clear w1
    rintro dv2 vs2 w1 - ⟨i, h1, hi, e1, hrow, hB, hh1⟩
    simp (disch := omega) only [e1, PX, BX]
    refine ⟨fun hlt => ?_, fun hge => ?_⟩
    · have hlt' : i < xs.length := by omega
      have hie : i < es.length := by omega
      have next : ∀ (v' : Value) (w' : World) (h' : List (Nat × Obj)), RowH 3 1 v' (if 0 < k then hasUp xs k (i + 1) else []).length (intsV .i64 (if 0 < k then hasUp xs k (i + 1) else [])) h' → Bk W (h' ++ F) gb xs w' → (∀ q ∈ h', W.heap.size ≤ q.1) →
          flotillalaw20_alike_k4 (std Try.prog) vs2 (fun vs' w' => (∃ (i : Nat) (h1 : List (Nat × Obj)), i ≤ xs.length ∧ vs'.getD 1 undef = .int .i64 i ∧ RowH 3 1 (vs'.getD 0 undef) (if 0 < k then hasUp xs k i else []).length (intsV .i64 (if 0 < k then hasUp xs k i else [])) h1 ∧ Bk W (h1 ++ F) gb xs w' ∧ ∀ q ∈ h1, W.heap.size ≤ q.1) ∧ xs.length - (intOf (vs'.getD 1 undef)).toNat < xs.length - (intOf (Value.int .i64 (i : Int))).toNat) v' w' fun r w' => r = .bool true ∧ Bk W F gb xs w' := by
        intro v' w' h' g1 g2 g3
        unfold flotillalaw20_alike_k4
        simp (disch := omega) only [e1, PX, w64]
        refine ⟨⟨i + 1, h', by omega, rfl, g1, g2, g3⟩, ?_⟩
        simp only [List.getD_cons_zero, List.getD_cons_succ, intOf]; omega
      have hxe : es[i].1 = lfAt xs (i : Int) := by rw [lfAt_nat hlt']; subst hes; simp
      refine ⟨fun hk0 => ?_, fun hk0 => ?_⟩
      · have hk0' : 0 < k := by omega
        rw [if_pos hk0'] at hrow next
        obtain ⟨a, _, he, hx⟩ := (hRE w1 (hB.F.sub (List.sublist_append_right _ _))).at_ hie
        injection he with he _ _
        subst he
        have c0 : w1.cell? (a.add (i * 5)) = some (.int .i64 (lfAt xs (i : Int)).owner) := by
          rw [← hxe]
          exact hx 0 _ rfl
        simp (disch := first | assumption | omega) only [PX, BX, LX]
        refine ⟨fun ho => ?_, fun ho => ?_⟩
        · have hup : hasUp xs k (i + 1) = hasUp xs k i ++ [(i : Int)] := by rw [hasUp_succ, if_pos ho]
          obtain ⟨R, hO, hcl⟩ := hB.open
          rw [List.append_assoc] at hO
          have hul := hasUp_len xs k i
          refine st_apn hB.upd hO hrow (by omega) hh1 ?_
          intro v' w' h' hr' hO' hU' hh'
          rw [← hup] at hr'
          exact next v' w' h' hr' (hcl _ w' (by rw [List.append_assoc]; exact hO') hU') hh'
        · have hup : hasUp xs k (i + 1) = hasUp xs k i := by rw [hasUp_succ, if_neg ho, List.append_nil]
          exact next _ w1 h1 (by rw [hup]; exact hrow) hB hh1
      · rw [if_neg (by omega)] at hrow next
        exact next _ w1 h1 hrow hB hh1
    · have : i = xs.length := by omega
      rw [this, ← hnine] at hrow
      unfold flotillalaw20_alike_k3
      rw [e0]
      refine st_call (Has_spec hB (by omega) (k : Int)) ?_
      rintro r w2 ⟨h2, hrow2, hB2, _⟩
      have := has_count hI (k : Int)
      refine st_call (Same_spec (hrow2.rd hB2.F) (hrow.rd (hB2.F.sub (List.sublist_append_right _ _))) (by omega)) ?_
      rintro _ w3 ⟨rfl, hU3⟩
      rw [decide_eq_true rfl]
      simp (disch := omega) only [PX, BX, w64, Bool.not_true]
      refine ⟨⟨k + 1, by omega, rfl, (hB2.ext hU3).drop.drop⟩, ?_⟩
      simp only [List.getD_cons_zero, intOf]; omega

theorem OwnPlays_spec (w : World) {v : Value} {fl : List Bool} (hv : Rd w 1 v fl.length (boolsV fl)) {vo : Value} {ops : List Op3} (hops : RdS w opV 3 vo ops) (pages : Int) :
    CallsR Try.prog 7 #[.int .i64 pages, v, vo] w fun r w' => r = .bool true ∧ Upd w w' [] := by
  apply flotillalaw20_OwnPlays_sound
  unfold flotillalaw20_OwnPlays_x
  have liv : ∀ w', Upd w w' [] → (std Try.prog).calls 9 #[] w' fun v w2 => v = .bool true ∧ Upd w w2 [] := fun w' hU => st_call (lives_spec w') fun v w2 h => ⟨h.1, hU.trans h.2⟩
  obtain ⟨A, c, rfl, hcc, _, _⟩ := id hv
  obtain ⟨Ao, co, rfl, hmo, _⟩ := id hops
  simp (disch := omega) only [PX, BX]
  refine ⟨fun _ => liv w (Upd.refl w []), fun _ => ?_⟩
  refine st_call (New_spec (F := []) (Upd.refl w []) (Owns.nil w) (fun w' hU' _ => hv.mono hU') pages) ?_
  intro r w1 hr
  unfold NewR at hr
  have hU1 : Upd w w1 [] := by
    split at hr
    · exact hr.2.1
    · obtain ⟨_, _, hB⟩ := hr; exact hB.upd
  have ext2 : ∃ a b, r = .tuple #[a, b] := by
    split at hr
    · exact ⟨_, _, hr.1⟩
    · obtain ⟨_, h, _⟩ := hr; exact ⟨_, _, h⟩
  obtain ⟨ra, rb, rfl⟩ := ext2
  simp only [PX]
  refine st_call (RNew_spec (F := []) (Owns.nil w1) (fun w' hU' _ => hv.mono (hU1.trans hU')) pages) ?_
  rintro rr w2 ⟨hU2, hrr⟩
  by_cases hbad : pages < 1 ∨ 16 < pages ∨ pages < fl.length
  · rw [if_pos hbad] at hr hrr
    subst hrr
    have he := hr.1
    injection he with he
    injection he with he
    injection he with ha he
    injection he with hb _
    subst ha hb
    simp (disch := omega) only [PX, NP, BX, Bool.not_false]
    exact ⟨fun _ => liv w2 (hU1.trans hU2), fun h => absurd trivial h⟩
  rw [if_neg hbad] at hr hrr
  obtain ⟨gb, he, hB⟩ := hr
  injection he with he
  injection he with he
  injection he with ha he
  injection he with hb _
  subst ha hb
  obtain ⟨G, v', rfl, hG, hO2, hR⟩ := hrr
  have hB2 := hB.ref hU2 hO2 hG
  obtain ⟨pn, rfl⟩ : ∃ n : Nat, pages = n := ⟨pages.toNat, by omega⟩
  rw [Int.toNat_natCast] at hB2 hR
  simp (disch := omega) only [PX, NP, BX, Bool.not_true]
  refine ⟨fun h => absurd rfl h, fun _ => ?_⟩
  refine st_loop (fun vs w' => ∃ (i : Nat) (xs : List Lf) (F : List (Nat × Obj)), i ≤ ops.length ∧ vs.getD 1 undef = .int .i64 i ∧ Inv xs ∧ Bk w F gb xs w' ∧ Ref F (vs.getD 0 undef) xs) (fun vs _ => ops.length - (intOf (vs.getD 1 undef)).toNat)
    ⟨0, newL pn fl, _, by omega, rfl, Inv.new (by omega) fl, hB2, hR⟩ ?_
  clear hB2 hR hB hU2 hO2 hG hU1
  rintro dv vs w4 - ⟨i, xs, F, hi, e1, hI, hB, hR⟩
  simp (disch := omega) only [e1, PX, BX, flotillalaw20_OwnPlays_k2]
  refine ⟨fun hlt => ⟨fun h100 => ?_, fun _ => liv w4 hB.upd⟩, fun _ => liv w4 hB.upd⟩
  have hlt' : i < ops.length := by omega
  obtain ⟨a, _, he, hx⟩ := op_at hops hB.upd hlt'
  injection he with he _ _
  subst he
  simp (disch := first | assumption | omega) only [PX]
  refine st_loadN (cs := opV ops[i]) ag32 sz32 hx ?_
  refine st_call (step_spec hB hR hI ops[i]) ?_
  rintro _ w5 ⟨G, v', rfl, hB5, hR5⟩
  have hI5 := (play_inv hI ops[i]).1
  simp only [PX, BX, Bool.not_true]
  refine st_call (alike_spec hB5 hR5 hI5) ?_
  rintro _ w6 ⟨rfl, hB6⟩
  simp (disch := omega) only [PX, BX, w64, Bool.not_true]
  refine ⟨⟨i + 1, _, _, by omega, rfl, hI5, hB6, hR5⟩, ?_⟩
  simp only [List.getD_cons_zero, List.getD_cons_succ, intOf]; omega
end Go.Proofs.Ytilfkccahlkcaaa
