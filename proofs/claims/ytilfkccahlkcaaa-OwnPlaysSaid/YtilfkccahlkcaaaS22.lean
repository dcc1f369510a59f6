/- The document's books: Fail. -/
import Derived.Test.YtilfkccahlkcaaaS21
namespace Go.Proofs.Ytilfkccahlkcaaa
open Go Xf Go.RowKit Go.WideShapes
set_option linter.unusedVariables false
set_option linter.unusedSimpArgs false
set_option maxRecDepth 100000

/-- blocks that are new in a later world, beside what stood in an earlier one -/
theorem Owns.join {w w' : World} {G Y Z : List (Nat × Obj)} (h0 : Owns w Y) (hU : Upd w w' []) (h1 : Owns w' (G ++ Z)) (hf : ∀ p ∈ G, w.heap.size ≤ p.1) : Owns w' (G ++ Y) := by
  have hG : Owns w' G := h1.sub (List.sublist_append_left _ _)
  have hY : Owns w' Y := h0.ext hU
  refine ⟨?_, fun p hp => (List.mem_append.1 hp).elim (hG.2 p) (hY.2 p)⟩
  rw [List.map_append, List.nodup_append]
  refine ⟨hG.1, hY.1, fun a ha b hb => ?_⟩
  obtain ⟨p, hp, rfl⟩ := List.mem_map.1 ha
  obtain ⟨q, hq, rfl⟩ := List.mem_map.1 hb
  have := hf p hp
  have := h0.lt hq
  omega
theorem Bk.ref {W w w' : World} {F G Z : List (Nat × Obj)} {gb : Nat} {xs : List Lf} (hB : Bk W F gb xs w) (hU : Upd w w' []) (h1 : Owns w' (G ++ Z)) (hf : ∀ p ∈ G, w.heap.size ≤ p.1) : Bk W (G ++ F) gb xs w' := by
  obtain ⟨R, hO, hcl⟩ := hB.open
  refine hcl (G ++ F) w' ?_ (hB.upd.trans hU)
  rw [List.append_assoc]
  exact hO.join hU h1 hf

section
variable {w : World} {F : List (Nat × Obj)} {v : Value} {xs : List Lf}
def FlR (w : World) (F : List (Nat × Obj)) (p : List Lf × List Int) (r : Value) (w' : World) : Prop :=
  Upd w w' [] ∧ ∃ (G : List (Nat × Obj)) (v' rl : Value), r = .tuple #[v', rl] ∧ (∀ q ∈ G, w.heap.size ≤ q.1) ∧ Owns w' (G ++ F) ∧ Ref (G ++ F) v' p.1 ∧ ∀ w'', Owns w'' (G ++ F) → RdN w'' rl p.2

theorem RFail_spec (hO : Owns w F) (hR : Ref F v xs) (hl : xs.length ≤ 16) (hN : ∀ x ∈ xs, x.waits.length ≤ 800) (inst : Int) :
    CallsR Try.prog 34 #[v, .int .i64 inst] w fun r w' => FlR w F (failL xs inst) r w' := by
  apply flotillaref20_Fail_sound
  unfold flotillaref20_Fail_x
  by_cases hk : 1 ≤ inst ∧ inst ≤ 8
  rotate_left
  · have hf : failL xs inst = (xs, []) := by unfold failL; rw [if_neg hk]
    obtain ⟨es, hes, hRE⟩ := id hR
    obtain ⟨A, c, rfl, _⟩ := (hRE w hO).len
    have fin : FlR w F (failL xs inst) (.tuple #[.slice A es.length c, .slice none 0 0]) w := by
      rw [hf]
      exact ⟨Upd.refl w [], [], _, _, rfl, fun q hq => (by cases hq), hO, hR, fun w'' _ => Rd.nil_ _ _⟩
    refine st_loop (fun vs w' => w' = w ∧ vs.getD 0 undef = .slice none 0 0 ∧ vs.getD 1 undef = .slice A es.length c ∧ vs.getD 2 undef = .int .i64 ((0 : Nat) : Int)) (fun _ _ => 0) ⟨rfl, rfl, rfl, rfl⟩ ?_
    rintro dv vs w1 - ⟨he, e0, e1, e2⟩
    subst w1
    simp (disch := omega) only [e0, e1, e2, PX, BX, flotillaref20_Fail_k1, flotillaref20_Fail_k2]
    refine ⟨fun _ => ⟨fun h1 => ⟨fun h8 => absurd ⟨h1, h8⟩ hk, fun _ => fin⟩, fun _ => fin⟩, fun _ => fin⟩
  have hf : failL xs inst = (xs.map (failX inst), hasUp xs inst xs.length) := by unfold failL; rw [if_pos hk]
  refine st_loop (fun vs w' => ∃ (i : Nat) (h1 G : List (Nat × Obj)) (es : List (Lf × Value)), i ≤ xs.length ∧ vs.getD 2 undef = .int .i64 i ∧ es.length = xs.length ∧ (∀ (j : Nat) (h1 : j < es.length) (h2 : j < xs.length), es[j].1 = if j < i then failX inst xs[j] else xs[j]) ∧
      RowH 3 1 (vs.getD 0 undef) (hasUp xs inst i).length (intsV .i64 (hasUp xs inst i)) h1 ∧ RefE (G ++ F) (vs.getD 1 undef) es ∧ Owns w' (h1 ++ (G ++ F)) ∧ Upd w w' [] ∧ (∀ q ∈ h1, w.heap.size ≤ q.1) ∧ ∀ q ∈ G, w.heap.size ≤ q.1)
    (fun vs _ => xs.length - (intOf (vs.getD 2 undef)).toNat) ?_ ?_
  · obtain ⟨es, hes, hRE⟩ := hR
    refine ⟨0, [], [], es, by omega, rfl, by rw [← hes, List.length_map], fun j h1 h2 => ?_, RowH.nil_ _ _, hRE, hO, Upd.refl w [], fun q hq => (by cases hq), fun q hq => (by cases hq)⟩
    rw [if_neg (by omega)]
    subst hes
    simp
  rintro dv vs w1 - ⟨i, h1, G, es, hi, e2, hel, hex, hrow, hRE, hO1, hU1, hh1, hhG⟩
  have hOG : Owns w1 (G ++ F) := hO1.sub (List.sublist_append_right _ _)
  have hRA := hRE w1 hOG
  obtain ⟨A, c, e1, _⟩ := hRA.len
  simp (disch := omega) only [e1, e2, PX, BX]
  refine ⟨fun hlt => ⟨fun _ => ⟨fun _ => ?_, fun h => absurd hk.2 h⟩, fun h => absurd hk.1 h⟩, fun hge => ?_⟩
  rotate_left
  · have : i = xs.length := by omega
    subst this
    unfold flotillaref20_Fail_k2 flotillaref20_Fail_k1
    rw [hf]
    refine ⟨hU1, h1 ++ G, _, _, rfl, ?_, by rw [List.append_assoc]; exact hO1, ⟨es, ?_, ?_⟩, fun w'' hO'' => ?_⟩
    · intro q hq
      exact (List.mem_append.1 hq).elim (hh1 q) (hhG q)
    · apply List.ext_getElem (by simp [hel])
      intro j g1 g2
      simp only [List.getElem_map]
      rw [hex j (by simpa using g1) (by simpa using g2), if_pos (by simpa using g2)]
    · rw [List.append_assoc]
      exact hRE.mono (List.sublist_append_right _ _)
    · rw [List.append_assoc] at hO''
      exact hrow.rd hO''
  have hlt' : i < xs.length := by omega
  have hie : i < es.length := by omega
  have hx : es[i].1 = xs[i] := by rw [hex i hie hlt', if_neg (by omega)]
  rw [← e1]
  refine st_leaf (F := F) hRA hie hU1 hO1 ?_
  intro g8 w2 hU2 hO2 hg8
  have hue : ∀ w', Owns w' (G ++ F) → RdN w' es[i].2 xs[i].waits := fun w' h => by rw [← hx]; exact (hRE w' h).2 _ (List.getElem_mem hie)
  have hw8 : xs[i].waits.length ≤ 800 := hN _ (List.getElem_mem hlt')
  have hrl : rowL es[i] = rowL (xs[i], es[i].2) := by rw [← hx]
  rw [hrl] at hO2
  have hx' : ∀ j, j < xs.length → (j : Nat) = i → True := fun _ _ _ => trivial
  generalize hu : es[i].2 = u at *
  have hat : lfAt xs (i : Int) = xs[i] := lfAt_nat hlt'
  generalize hxx : xs[i] = x at *
  -- who is left waits on
  refine st_loop (fun vs2 w' => ∃ (j : Nat) (h9 : List (Nat × Obj)), j ≤ x.waits.length ∧ vs2.getD 1 undef = .int .i64 j ∧ RowH 3 1 (vs2.getD 0 undef) (without (x.waits.take j) inst).length (intsV .i64 (without (x.waits.take j) inst)) h9 ∧
      Owns w' (h9 ++ ((g8, Obj.cells (rowL (x, u)).toArray 68 (0, 0)) :: (h1 ++ (G ++ F)))) ∧ Upd w w' [] ∧ ∀ q ∈ h9, w.heap.size ≤ q.1)
    (fun vs2 _ => x.waits.length - (intOf (vs2.getD 1 undef)).toNat) ⟨0, [], by omega, rfl, RowH.nil_ _ _, hO2, hU2, fun q hq => by cases hq⟩ ?_
  clear hO2 hU2
  rintro dv2 vs2 w3 - ⟨j, h9, hj, f1, hrow9, hO3, hU3, hh9⟩
  have hO8 : Owns w3 ((g8, Obj.cells (rowL (x, u)).toArray 68 (0, 0)) :: (h1 ++ (G ++ F))) := hO3.sub (List.sublist_append_right _ _)
  have hun := hue w3 (hO8.sub (.trans (List.sublist_append_right _ _) (List.sublist_cons_self _ _)))
  obtain ⟨Au, cu, hue'⟩ := hun.len
  have c4 : w3.cell? ⟨g8, 4, none⟩ = some (.slice Au x.waits.length cu) := by rw [← hue']; exact cell_at (hO8.at_ 0 rfl)
  simp (disch := first | assumption | omega) only [f1, PX, BX, LX, add_mk, Nat.zero_add]
  refine ⟨fun hjl => ?_, fun hjl => ?_⟩
  · have hjl' : j < x.waits.length := by omega
    rw [hue'] at hun
    obtain ⟨a, _, he, hxj⟩ := rdn_at hun hjl'
    injection he with he _ _
    subst he
    simp (disch := first | assumption | omega) only [PX, BX, LX, Nat.mul_one]
    have hws := without_succ (inst := inst) hjl'
    have hwl := without_len (x.waits.take j) inst
    have htl : (x.waits.take j).length ≤ 800 := by rw [List.length_take]; omega
    refine ⟨fun hne => ?_, fun he => ?_⟩
    · rw [if_neg hne] at hws
      refine st_apn hU3 hO3 hrow9 (by omega) hh9 ?_
      intro v' w' h' hr' hO' hU' hh'
      rw [← hws] at hr'
      unfold flotillaref20_Fail_k5
      simp (disch := omega) only [f1, PX, w64]
      refine ⟨⟨j + 1, h', by omega, rfl, hr', hO', hU', hh'⟩, ?_⟩
      simp only [List.getD_cons_zero, List.getD_cons_succ, intOf]; omega
    · have he := Decidable.byContradiction he
      rw [if_pos he, List.append_nil] at hws
      unfold flotillaref20_Fail_k5
      simp (disch := omega) only [f1, PX, w64]
      refine ⟨⟨j + 1, h9, by omega, rfl, by rw [hws]; exact hrow9, hO3, hU3, hh9⟩, ?_⟩
      simp only [List.getD_cons_zero, List.getD_cons_succ, intOf]; omega
  have hjl' : j = x.waits.length := by omega
  subst hjl'
  rw [List.take_length] at hrow9
  generalize hv9 : vs2.getD 0 undef = u9 at *
  have hwl := without_len x.waits inst
  have hone : oneB u9 = true := by
    obtain ⟨A', c', he, _⟩ := hrow9.rd hO3
    rw [he]; rfl
  unfold flotillaref20_Fail_k3
  simp (disch := first | assumption | omega) only [PX, add_mk, Nat.zero_add]
  refine st_storeB sz36 hone hU3 (hO3.perm List.perm_middle) 0 rfl (by simp [rowL]) (.inr (Nat.zero_le _)) (.inr hg8) ?_
  intro w4 hU4 hO4
  have hO4 : Owns w4 ((g8, Obj.cells (rowL ({ x with waits := without x.waits inst }, u9)).toArray 68 (0, 0)) :: (h9 ++ (h1 ++ (G ++ F)))) := hO4
  have c0 : w4.cell? ⟨g8, 0, none⟩ = some (.int .i64 x.owner) := cell_at (hO4.at_ 0 rfl)
  simp (disch := first | assumption | omega) only [PX, BX, LX, add_mk, Nat.zero_add]
  -- the page is laid back
  have k4 : ∀ (w5 : World) (x' : Lf) (h1' : List (Nat × Obj)) (vl : Value), x' = failX inst x → x'.waits = without x.waits inst → RowH 3 1 vl (hasUp xs inst (i + 1)).length (intsV .i64 (hasUp xs inst (i + 1))) h1' → (∀ q ∈ h1', w.heap.size ≤ q.1) → Upd w w5 [] →
      Owns w5 (h1' ++ ((g8, Obj.cells (rowL (x', u9)).toArray 68 (0, 0)) :: (h9 ++ (G ++ F)))) →
      flotillaref20_Fail_k4 (std Try.prog) vs (fun vs' w' => (∃ (i : Nat) (h1 G : List (Nat × Obj)) (es : List (Lf × Value)), i ≤ xs.length ∧ vs'.getD 2 undef = .int .i64 i ∧ es.length = xs.length ∧ (∀ (j : Nat) (h1 : j < es.length) (h2 : j < xs.length), es[j].1 = if j < i then failX inst xs[j] else xs[j]) ∧
      RowH 3 1 (vs'.getD 0 undef) (hasUp xs inst i).length (intsV .i64 (hasUp xs inst i)) h1 ∧ RefE (G ++ F) (vs'.getD 1 undef) es ∧ Owns w' (h1 ++ (G ++ F)) ∧ Upd w w' [] ∧ (∀ q ∈ h1, w.heap.size ≤ q.1) ∧ ∀ q ∈ G, w.heap.size ≤ q.1) ∧ xs.length - (intOf (vs'.getD 2 undef)).toNat < xs.length - (intOf (Value.int .i64 (i : Int))).toNat) (.pointer (some ⟨g8, 0, none⟩)) vl w5 fun r w' => FlR w F (failL xs inst) r w' := by
    intro w5 x' h1' vl hx'e hx'w hrl hhl hU5 hO5
    unfold flotillaref20_Fail_k4
    have hO6 : Owns w5 ((g8, Obj.cells (rowL (x', u9)).toArray 68 (0, 0)) :: (h9 ++ (G ++ F))) := hO5.sub (List.sublist_append_right _ _)
    have hc := hO6.at_ 0 rfl
    refine st_loadN (cs := rowL (x', u9)) ag68 (by rw [sz68]; rfl) (by
      intro j u hj
      rw [add_mk, Nat.zero_add, cell_at hc]
      simpa using hj) ?_
    rw [e2]
    refine st_call (with_spec hO6 (hRE.mono (.cons _ (List.sublist_append_right _ _))) hie (by omega) (fun w' hO' => ?_)) ?_
    · rw [hx'w]
      exact hrow9.rd (hO'.sub (List.sublist_cons_self _ _))
    rintro r w7 ⟨G', hRE', ⟨hU7, hO7⟩, hG'⟩
    simp (disch := omega) only [e2, PX, w64]
    have hO8 := (Owns.join hO5 hU7 hO7 hG').perm (List.perm_append_comm_assoc G' h1' _)
    have e : G' ++ ((g8, Obj.cells (rowL (x', u9)).toArray 68 (0, 0)) :: (h9 ++ (G ++ F))) = (G' ++ ((g8, Obj.cells (rowL (x', u9)).toArray 68 (0, 0)) :: (h9 ++ G))) ++ F := by simp
    rw [e] at hO8 hRE'
    refine ⟨⟨i + 1, h1', _, es.set i (x', u9), by omega, rfl, by rw [List.length_set]; exact hel, fun j g1 g2 => ?_, hrl, hRE', hO8, hU5.trans hU7, hhl, fun q hq => ?_⟩, ?_⟩
    · rw [List.getElem_set]
      split
      · rename_i he; subst he
        rw [if_pos (by omega), hxx]; exact hx'e
      · rename_i he
        rw [hex j (by simpa using g1) g2]
        by_cases hji : j < i
        · rw [if_pos hji, if_pos (by omega)]
        · rw [if_neg hji, if_neg (by omega)]
    · rcases List.mem_append.1 hq with hq | hq
      · exact Nat.le_trans hU5.size (hG' q hq)
      · cases hq with
        | head => exact hg8
        | tail _ hq => exact (List.mem_append.1 hq).elim (hh9 q) (hhG q)
    · simp only [List.getD_cons_zero, List.getD_cons_succ, intOf]; omega
  refine ⟨fun ho => ?_, fun ho => ?_⟩
  · have hup : hasUp xs inst (i + 1) = hasUp xs inst i ++ [(i : Int)] := by rw [hasUp_succ, hat, if_pos ho]
    refine st_storeB sz3 rfl hU4 hO4 0 rfl (by simp [rowL]) (.inr (Nat.zero_le _)) (.inr hg8) ?_
    intro w5 hU5 hO5
    have hO5 : Owns w5 ((g8, Obj.cells (rowL ({ x with waits := without x.waits inst, owner := 0 }, u9)).toArray 68 (0, 0)) :: (h9 ++ (h1 ++ (G ++ F)))) := hO5
    refine st_storeB sz4 rfl hU5 hO5 0 rfl (by simp [rowL]) (.inr (Nat.zero_le _)) (.inr hg8) ?_
    intro w6 hU6 hO6
    have hO6 : Owns w6 ((g8, Obj.cells (rowL ({ x with waits := without x.waits inst, owner := 0, called := false }, u9)).toArray 68 (0, 0)) :: (h9 ++ (h1 ++ (G ++ F)))) := hO6
    refine st_storeB sz4 rfl hU6 hO6 0 rfl (by simp [rowL]) (.inr (Nat.zero_le _)) (.inr hg8) ?_
    intro w7 hU7 hO7
    have hO7 : Owns w7 ([(g8, Obj.cells (rowL (⟨0, true, false, x.fast, without x.waits inst⟩, u9)).toArray 68 (0, 0))] ++ (h9 ++ (h1 ++ (G ++ F)))) := hO7
    have hP : ([(g8, Obj.cells (rowL (⟨0, true, false, x.fast, without x.waits inst⟩, u9)).toArray 68 (0, 0))] ++ (h9 ++ (h1 ++ (G ++ F)))).Perm (h1 ++ ((g8, Obj.cells (rowL (⟨0, true, false, x.fast, without x.waits inst⟩, u9)).toArray 68 (0, 0)) :: (h9 ++ (G ++ F)))) :=
      (List.Perm.cons _ (List.perm_append_comm_assoc h9 h1 _)).trans List.perm_middle.symm
    rw [e2]
    have hul := hasUp_len xs inst i
    refine st_apn hU7 (hO7.perm hP) hrow (by omega) hh1 ?_
    intro v' w' h' hr' hO' hU' hh'
    rw [← hup] at hr'
    exact k4 w' ⟨0, true, false, x.fast, without x.waits inst⟩ h' v' (by unfold failX; rw [if_pos ho]) rfl hr' hh' hU' hO'
  · have hup : hasUp xs inst (i + 1) = hasUp xs inst i := by rw [hasUp_succ, hat, if_neg ho, List.append_nil]
    have hP : ((g8, Obj.cells (rowL ({ x with waits := without x.waits inst }, u9)).toArray 68 (0, 0)) :: (h9 ++ (h1 ++ (G ++ F)))).Perm (h1 ++ ((g8, Obj.cells (rowL ({ x with waits := without x.waits inst }, u9)).toArray 68 (0, 0)) :: (h9 ++ (G ++ F)))) :=
      (List.Perm.cons _ (List.perm_append_comm_assoc h9 h1 _)).trans List.perm_middle.symm
    exact k4 w4 { x with waits := without x.waits inst } h1 _ (by unfold failX; rw [if_neg ho]) rfl (by rw [hup]; exact hrow) hh1 hU4 (hO4.perm hP)
end
end Go.Proofs.Ytilfkccahlkcaaa
