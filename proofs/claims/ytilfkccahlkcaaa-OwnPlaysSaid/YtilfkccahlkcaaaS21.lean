/- The document's books: Need, Back, Mend. -/
import Derived.Test.YtilfkccahlkcaaaS20
namespace Go.Proofs.Ytilfkccahlkcaaa
open Go Xf Go.RowKit Go.WideShapes
set_option linter.unusedVariables false
set_option linter.unusedSimpArgs false
set_option maxRecDepth 100000

/-- what such a function of the document answers -/
def PlR (w : World) (F : List (Nat × Obj)) (p : List Lf × List Od × Int) (r : Value) (w' : World) : Prop :=
  Upd w w' [] ∧ ∃ (G : List (Nat × Obj)) (v' ro : Value), r = .tuple #[v', ro, .int .i64 p.2.2] ∧ (∀ q ∈ G, w.heap.size ≤ q.1) ∧ Owns w' (G ++ F) ∧ Ref (G ++ F) v' p.1 ∧ ∀ w'', Owns w'' (G ++ F) → RdO w'' ro p.2.1
theorem PlR.no {w : World} {F : List (Nat × Obj)} {v : Value} {xs : List Lf} {e : Int} {p : List Lf × List Od × Int} {w' : World} (hU : Upd w w' []) (hO : Owns w F) (hR : Ref F v xs) (hp : p = (xs, [], e)) : PlR w F p (.tuple #[v, .slice none 0 0, .int .i64 e]) w' := by
  subst hp
  exact ⟨hU, [], v, _, rfl, fun q hq => (by cases hq), hO.ext hU, hR, fun w'' _ => Rd.nil_ _ _⟩

section
variable {w w1 : World} {F Y : List (Nat × Obj)} {v u : Value} {es : List (Lf × Value)} {i g9 : Nat} {x : Lf}
theorem tail_spec (hU : Upd w w1 []) (hO : Owns w1 (Y ++ F)) (hY : ∀ q ∈ Y, w.heap.size ≤ q.1) (hg : (g9, Obj.cells (rowL (x, u)).toArray 68 (0, 0)) ∈ Y) (hR : RefE F v es) (hi : i < es.length) (hl : es.length ≤ 16)
    (hu : ∀ w, Owns w (Y ++ F) → RdN w u x.waits) (hw9 : x.waits.length ≤ 900) {p : List Lf × List Od × Int} (hp : p = ((es.map (·.1)).set i (serveL i x).1, (serveL i x).2, 0)) :
    (std Try.prog).step (sLoad 68 (.pointer (some ⟨g9, 0, none⟩))) w1 fun v57 w2 => (std Try.prog).calls 42 #[v, .int .i64 (i : Nat), v57] w2 fun v58 w2 => (std Try.prog).calls 41 #[v58, .int .i64 (i : Nat)] w2 fun v60 w2 =>
      (std Try.prog).step (sExtract v60 0) w2 fun v61 w2 => (std Try.prog).step (sExtract v60 1) w2 fun v62 w2 => PlR w F p (.tuple #[v61, v62, .int .i64 0]) w2 := by
  have hc := hO.2 _ (List.mem_append_left F hg)
  refine st_loadN (cs := rowL (x, u)) ag68 (by rw [sz68]; rfl) (by
    intro j u hj
    rw [add_mk, Nat.zero_add, cell_at hc]
    simpa using hj) ?_
  refine st_call (with_spec hO (hR.mono (List.sublist_append_right _ _)) hi hl hu) ?_
  rintro r w2 ⟨G, hRE, ⟨hU2, hO2⟩, hG⟩
  have hi' : i < (es.set i (x, u)).length := by rw [List.length_set]; exact hi
  have hx : (es.set i (x, u))[i] = (x, u) := by rw [List.getElem_set_self]
  refine st_call (Serve_spec hO2 hRE hi' (by rw [List.length_set]; exact hl) (by rw [hx]; exact hw9)) ?_
  rintro r3 w3 ⟨hU3, G3, v', u', ro, rfl, hG3, hO3, hR3, hro⟩
  rw [hx] at hR3 hro
  rw [List.set_set] at hR3
  simp only [PX]
  subst hp
  have e : G3 ++ (G ++ (Y ++ F)) = (G3 ++ (G ++ Y)) ++ F := by simp
  rw [e] at hO3 hR3
  refine ⟨(hU.trans hU2).trans hU3, _, v', ro, rfl, ?_, hO3, ⟨_, ?_, hR3⟩, fun w'' hO'' => hro w'' (by rw [e]; exact hO'')⟩
  · intro q hq
    rcases List.mem_append.1 hq with hq | hq
    · exact Nat.le_trans (hU.trans hU2).size (hG3 q hq)
    rcases List.mem_append.1 hq with hq | hq
    · exact Nat.le_trans hU.size (hG q hq)
    · exact hY q hq
  · rw [List.map_set]
end

section
variable {w : World} {F : List (Nat × Obj)} {v : Value} {xs : List Lf}
theorem ref_at {es : List (Lf × Value)} {i : Nat} (hi : i < es.length) : lfAt (es.map (·.1)) (i : Int) = es[i].1 := by
  rw [lfAt_nat (by simpa using hi), List.getElem_map]
theorem RNeed_spec (hO : Owns w F) (hR : Ref F v xs) (hl : xs.length ≤ 16) (hN : ∀ x ∈ xs, x.waits.length ≤ 800) (page inst : Int) :
    CallsR Try.prog 32 #[v, .int .i64 page, .int .i64 inst] w fun r w' => PlR w F (needL xs page inst) r w' := by
  have hR0 := hR
  obtain ⟨es, rfl, hR⟩ := hR
  rw [List.length_map] at hl
  apply flotillaref20_Need_sound
  unfold flotillaref20_Need_x
  have hRA := hR w hO
  obtain ⟨A, c, rfl, _⟩ := hRA.len
  have no : ¬ (0 ≤ page ∧ page < (es.length : Int) ∧ 1 ≤ inst ∧ inst ≤ 8) → PlR w F (needL (es.map (·.1)) page inst) (.tuple #[.slice A es.length c, .slice none 0 0, .int .i64 1]) w := fun hn =>
    PlR.no (Upd.refl w []) hO hR0 (by unfold needL; rw [if_neg]; rw [List.length_map]; exact hn)
  simp (disch := omega) only [PX, BX, flotillaref20_Need_k1]
  refine ⟨fun h => no (by omega), fun g1 => ⟨fun h => no (by omega), fun g2 => ⟨fun h => no (by omega), fun g3 => ⟨fun h => no (by omega), fun g4 => ?_⟩⟩⟩⟩
  obtain ⟨i, rfl⟩ : ∃ i : Nat, page = i := ⟨page.toNat, by omega⟩
  have hi : i < es.length := by omega
  have hw8 : es[i].1.waits.length ≤ 800 := hN _ (List.mem_map.2 ⟨es[i], List.getElem_mem hi, rfl⟩)
  have hnl : needL (es.map (·.1)) (i : Int) inst = if es[i].1.owner = inst ∨ inst ∈ es[i].1.waits then (es.map (·.1), [], 9)
      else ((es.map (·.1)).set i (serveL i { es[i].1 with waits := es[i].1.waits ++ [inst] }).1, (serveL i { es[i].1 with waits := es[i].1.waits ++ [inst] }).2, 0) := by
    unfold needL
    rw [if_pos ⟨by omega, by rw [List.length_map]; omega, by omega, by omega⟩, ref_at hi, Int.toNat_natCast]
  refine st_leaf (F := F) hRA hi (Upd.refl w []) hO ?_
  intro g9 w1 hU1 hO1 hg
  have hue : ∀ w', Owns w' F → RdN w' es[i].2 es[i].1.waits := fun w' h => (hR w' h).2 _ (List.getElem_mem hi)
  generalize hxe : es[i] = xu at *
  obtain ⟨x, u⟩ := xu
  simp only at hw8 hue hnl
  have hOF := hO1.sub (List.sublist_cons_self _ _)
  have hun := hue w1 hOF
  obtain ⟨Au, cu, hue'⟩ := hun.len
  subst hue'
  have c0 : w1.cell? ⟨g9, 0, none⟩ = some (.int .i64 x.owner) := cell_at (hO1.at_ 0 rfl)
  have c4 : w1.cell? ⟨g9, 4, none⟩ = some (.slice Au x.waits.length cu) := cell_at (hO1.at_ 0 rfl)
  simp (disch := first | assumption | omega) only [PX, BX, LX, add_mk, Nat.zero_add]
  refine ⟨fun h0 => PlR.no hU1 hO hR0 (by rw [hnl, if_pos (.inl h0)]), fun h0 => ?_⟩
  refine st_call (has40_spec inst hun (by omega)) ?_
  rintro _ w2 ⟨rfl, he⟩
  subst w2
  rw [bool_dec]
  refine ⟨fun h1 => PlR.no hU1 hO hR0 (by rw [hnl, if_pos (.inr h1)]), fun h1 => ?_⟩
  rw [if_neg (by rintro (h | h); exact h0 h; exact h1 h)] at hnl
  simp (disch := first | assumption | omega) only [PX, BX, LX, add_mk, Nat.zero_add]
  obtain ⟨inf3, hi3, hz3, hs3, hb3⟩ := inf3
  refine st_append (h := []) (F := (g9, Obj.cells (rowL (x, .slice Au x.waits.length cu)).toArray 68 (0, 0)) :: F) (ks := []) u36 hi3 hz3 hs3 hb3 rfl (by omega) (RowH.nil_ 3 1) hO1 hU1 (fun q hq => by cases hq) hun (intsV_one _ _) (by unfold maxLen; omega) (by omega) ?_
  intro u3 w3 h3 hr3 hO3 hU3 hh3
  rw [Nat.zero_add, List.nil_append] at hr3
  refine st_apn (x := inst) hU3 hO3 hr3 (by omega) (fun q hq => (hh3 q hq).resolve_left (by simp)) ?_
  intro u4 w4 h4 hr4 hO4 hU4 hh4
  have hone : oneB u4 = true := by
    obtain ⟨A', c', he, _⟩ := hr4.rd hO4
    rw [he]; rfl
  refine st_storeB sz36 hone hU4 (hO4.perm List.perm_middle) 0 rfl (by simp [rowL]) (.inr (Nat.zero_le _)) (.inr hg) ?_
  intro w5 hU5 hO5
  have hO5 : Owns w5 (((g9, Obj.cells (rowL ({ x with waits := x.waits ++ [inst] }, u4)).toArray 68 (0, 0)) :: h4) ++ F) := hO5
  refine tail_spec (Y := (g9, Obj.cells (rowL ({ x with waits := x.waits ++ [inst] }, u4)).toArray 68 (0, 0)) :: h4) hU5 hO5 ?_ (.head _) hR hi hl (fun w' hO' => ?_) (by simp; omega) hnl
  · intro q hq
    cases hq with
    | head => exact hg
    | tail _ hq => exact hh4 q hq
  · exact hr4.rd (hO'.sub (List.sublist_cons_self _ _))

theorem RBack_spec (hO : Owns w F) (hR : Ref F v xs) (hl : xs.length ≤ 16) (hN : ∀ x ∈ xs, x.waits.length ≤ 800) (page inst : Int) :
    CallsR Try.prog 33 #[v, .int .i64 page, .int .i64 inst] w fun r w' => PlR w F (backL xs page inst) r w' := by
  have hR0 := hR
  obtain ⟨es, rfl, hR⟩ := hR
  rw [List.length_map] at hl
  apply flotillaref20_Back_sound
  unfold flotillaref20_Back_x
  have hRA := hR w hO
  obtain ⟨A, c, rfl, _⟩ := hRA.len
  have no : ¬ (0 ≤ page ∧ page < (es.length : Int) ∧ 1 ≤ inst ∧ inst ≤ 8) → PlR w F (backL (es.map (·.1)) page inst) (.tuple #[.slice A es.length c, .slice none 0 0, .int .i64 1]) w := fun hn =>
    PlR.no (Upd.refl w []) hO hR0 (by unfold backL; rw [if_neg]; rw [List.length_map]; exact hn)
  simp (disch := omega) only [PX, BX, flotillaref20_Back_k1]
  refine ⟨fun h => no (by omega), fun g1 => ⟨fun h => no (by omega), fun g2 => ⟨fun h => no (by omega), fun g3 => ⟨fun h => no (by omega), fun g4 => ?_⟩⟩⟩⟩
  obtain ⟨i, rfl⟩ : ∃ i : Nat, page = i := ⟨page.toNat, by omega⟩
  have hi : i < es.length := by omega
  have hw8 : es[i].1.waits.length ≤ 800 := hN _ (List.mem_map.2 ⟨es[i], List.getElem_mem hi, rfl⟩)
  have hnl : backL (es.map (·.1)) (i : Int) inst = if es[i].1.owner = inst then ((es.map (·.1)).set i (serveL i { es[i].1 with owner := 0, called := false }).1, (serveL i { es[i].1 with owner := 0, called := false }).2, 0) else (es.map (·.1), [], 10) := by
    unfold backL
    rw [if_pos ⟨by omega, by rw [List.length_map]; omega, by omega, by omega⟩, ref_at hi, Int.toNat_natCast]
  refine st_leaf (F := F) hRA hi (Upd.refl w []) hO ?_
  intro g9 w1 hU1 hO1 hg
  have hue : ∀ w', Owns w' F → RdN w' es[i].2 es[i].1.waits := fun w' h => (hR w' h).2 _ (List.getElem_mem hi)
  generalize hxe : es[i] = xu at *
  obtain ⟨x, u⟩ := xu
  simp only at hw8 hue hnl
  have c0 : w1.cell? ⟨g9, 0, none⟩ = some (.int .i64 x.owner) := cell_at (hO1.at_ 0 rfl)
  simp (disch := first | assumption | omega) only [PX, BX, LX, add_mk, Nat.zero_add]
  refine ⟨fun h0 => PlR.no hU1 hO hR0 (by rw [hnl, if_neg h0]), fun h0 => ?_⟩
  rw [if_pos (Decidable.byContradiction h0)] at hnl
  refine st_storeB sz3 rfl hU1 hO1 0 rfl (by simp [rowL]) (.inr (Nat.zero_le _)) (.inr hg) ?_
  intro w2 hU2 hO2
  have hO2 : Owns w2 ((g9, Obj.cells (rowL ({ x with owner := 0 }, u)).toArray 68 (0, 0)) :: F) := hO2
  refine st_storeB sz4 rfl hU2 hO2 0 rfl (by simp [rowL]) (.inr (Nat.zero_le _)) (.inr hg) ?_
  intro w3 hU3 hO3
  have hO3 : Owns w3 ([(g9, Obj.cells (rowL ({ x with owner := 0, called := false }, u)).toArray 68 (0, 0))] ++ F) := hO3
  exact tail_spec (Y := [(g9, Obj.cells (rowL ({ x with owner := 0, called := false }, u)).toArray 68 (0, 0))]) hU3 hO3 (fun q hq => by rw [List.mem_singleton] at hq; rw [hq]; exact hg) (.head _) hR hi hl (fun w' hO' => hue w' (hO'.sub (List.sublist_cons_self _ _))) (by simp; omega) hnl

theorem RMend_spec (hO : Owns w F) (hR : Ref F v xs) (hl : xs.length ≤ 16) (hN : ∀ x ∈ xs, x.waits.length ≤ 800) (page : Int) :
    CallsR Try.prog 35 #[v, .int .i64 page] w fun r w' => PlR w F (mendL xs page) r w' := by
  have hR0 := hR
  obtain ⟨es, rfl, hR⟩ := hR
  rw [List.length_map] at hl
  apply flotillaref20_Mend_sound
  unfold flotillaref20_Mend_x
  have hRA := hR w hO
  obtain ⟨A, c, rfl, _⟩ := hRA.len
  have no : ¬ (0 ≤ page ∧ page < (es.length : Int)) → PlR w F (mendL (es.map (·.1)) page) (.tuple #[.slice A es.length c, .slice none 0 0, .int .i64 1]) w := fun hn =>
    PlR.no (Upd.refl w []) hO hR0 (by unfold mendL; rw [if_neg]; rw [List.length_map]; exact hn)
  simp (disch := omega) only [PX, BX]
  refine ⟨fun h => no (by omega), fun g1 => ⟨fun h => no (by omega), fun g2 => ?_⟩⟩
  obtain ⟨i, rfl⟩ : ∃ i : Nat, page = i := ⟨page.toNat, by omega⟩
  have hi : i < es.length := by omega
  have hw8 : es[i].1.waits.length ≤ 800 := hN _ (List.mem_map.2 ⟨es[i], List.getElem_mem hi, rfl⟩)
  have hnl : mendL (es.map (·.1)) (i : Int) = if es[i].1.lost = true then ((es.map (·.1)).set i (serveL i { es[i].1 with lost := false }).1, (serveL i { es[i].1 with lost := false }).2, 0) else (es.map (·.1), [], 10) := by
    unfold mendL
    rw [if_pos ⟨by omega, by rw [List.length_map]; omega⟩, ref_at hi, Int.toNat_natCast]
  refine st_leaf (F := F) hRA hi (Upd.refl w []) hO ?_
  intro g9 w1 hU1 hO1 hg
  have hue : ∀ w', Owns w' F → RdN w' es[i].2 es[i].1.waits := fun w' h => (hR w' h).2 _ (List.getElem_mem hi)
  generalize hxe : es[i] = xu at *
  obtain ⟨x, u⟩ := xu
  simp only at hw8 hue hnl
  have c1 : w1.cell? ⟨g9, 1, none⟩ = some (.bool x.lost) := cell_at (hO1.at_ 0 rfl)
  simp (disch := first | assumption | omega) only [PX, BX, LX, add_mk, Nat.zero_add]
  rw [bool_var]
  refine ⟨fun h0 => ?_, fun h0 => PlR.no hU1 hO hR0 (by rw [hnl, if_neg (by rw [h0]; simp)])⟩
  rw [if_pos h0] at hnl
  refine st_storeB sz4 rfl hU1 hO1 0 rfl (by simp [rowL]) (.inr (Nat.zero_le _)) (.inr hg) ?_
  intro w3 hU3 hO3
  have hO3 : Owns w3 ([(g9, Obj.cells (rowL ({ x with lost := false }, u)).toArray 68 (0, 0))] ++ F) := hO3
  exact tail_spec (Y := [(g9, Obj.cells (rowL ({ x with lost := false }, u)).toArray 68 (0, 0))]) hU3 hO3 (fun q hq => by rw [List.mem_singleton] at hq; rw [hq]; exact hg) (.head _) hR hi hl (fun w' hO' => hue w' (hO'.sub (List.sublist_cons_self _ _))) (by simp; omega) hnl
end
end Go.Proofs.Ytilfkccahlkcaaa
