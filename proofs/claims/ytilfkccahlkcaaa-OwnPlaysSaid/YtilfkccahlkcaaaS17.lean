/- OwnGone. -/
import Derived.Test.YtilfkccahlkcaaaS16
namespace Go.Proofs.Ytilfkccahlkcaaa
open Go Xf Go.RowKit Go.WideShapes
set_option linter.unusedVariables false
set_option linter.unusedSimpArgs false
set_option maxRecDepth 100000

theorem has_fail (xs : List Lf) (inst : Int) : hasL xs inst = (failL xs inst).2 := by
  unfold hasL failL
  split <;> rfl
theorem fail_at {xs : List Lf} {inst : Int} {j : Nat} (hj : j < xs.length) : lfAt (failL xs inst).1 (j : Int) = if 1 ≤ inst ∧ inst ≤ 8 then failX inst (lfAt xs (j : Int)) else lfAt xs (j : Int) := by
  unfold failL
  split
  · simp only
    rw [lfAt_map, if_pos hj]
  · rfl
theorem has_none {xs : List Lf} (hI : Inv xs) (inst : Int) : hasL (failL xs inst).1 inst = [] := by
  unfold hasL
  split
  · rename_i hk
    apply List.eq_nil_iff_forall_not_mem.2
    intro j hj
    obtain ⟨k, h1, h2, h3⟩ := mem_hasUp.1 hj
    rw [fail_length] at h1
    rw [fail_at h1, if_pos hk] at h3
    unfold failX at h3
    split at h3
    · simp only at h3; omega
    · rename_i h4; exact h4 h3
  · rfl
theorem mem_has {xs : List Lf} {inst : Int} {j : Nat} (hj : j < xs.length) : (j : Int) ∈ hasL xs inst ↔ (1 ≤ inst ∧ inst ≤ 8) ∧ (lfAt xs (j : Int)).owner = inst := by
  unfold hasL
  split
  · rename_i hk
    rw [mem_hasUp]
    constructor
    · rintro ⟨k, h1, h2, h3⟩
      obtain rfl : j = k := by omega
      exact ⟨hk, h3⟩
    · rintro ⟨_, h⟩
      exact ⟨j, hj, rfl, h⟩
  · rename_i hk
    constructor
    · intro h; cases h
    · rintro ⟨h, _⟩; exact absurd h hk
theorem has_count {xs : List Lf} (hI : Inv xs) (inst : Int) : (hasL xs inst).length ≤ 16 := by
  rw [has_fail]; exact fail_count hI inst
/-- a lost page isn't given -/
theorem need_lost {ys : List Lf} (hI : Inv ys) {i : Nat} (hi : i < ys.length) (hl : (lfAt ys (i : Int)).lost = true) :
    (needL ys i 8).2.1 = [] ∧ ((needL ys i 8).2.2 = 0 ∨ (needL ys i 8).2.2 = 9) ∧ (lfAt (needL ys i 8).1 (i : Int)).owner = 0 ∧ ∀ j : Nat, j ≠ i → lfAt (needL ys i 8).1 (j : Int) = lfAt ys (j : Int) := by
  have hx := hI.at_ (i : Int)
  have ho := hx.lo hl
  have hc := hx.ca ho
  unfold needL
  rw [if_pos ⟨by omega, by omega, by omega, by omega⟩]
  split
  · exact ⟨rfl, .inr rfl, ho, fun _ _ => rfl⟩
  · have hs : serveL (i : Int) { lfAt ys (i : Int) with waits := (lfAt ys (i : Int)).waits ++ [8] } = ({ lfAt ys (i : Int) with waits := (lfAt ys (i : Int)).waits ++ [8] }, []) := by
      generalize lfAt ys (i : Int) = x at *
      obtain ⟨o, l, c, f, ws⟩ := x
      simp only at ho hl hc ⊢
      subst ho hl hc
      simp [serveL, giveL, callL]
    rw [hs, Int.toNat_natCast]
    refine ⟨rfl, .inl rfl, ?_, fun j hj => ?_⟩
    · rw [lfAt_set_self hi]; exact ho
    · rw [lfAt_set hi, if_neg (by omega)]

theorem ia49 {g p : Nat} (h : p < 16) {w : World} {K : Value → World → Prop} : (std Try.prog).step (sIndexAddr 49 (.pointer (some ⟨g, 0, none⟩)) (.int .i64 (p : Nat))) w K = K (.pointer (some ⟨g, p, none⟩)) w := by
  rw [step_run (run_idxA u49 sz36 (by omega) (by omega)), add_mk, Nat.zero_add, Nat.mul_one, Int.toNat_natCast]
theorem ia49S {g p : Nat} (h : p < 16) {S : World → Prop} {k : Value → Prop} (hne : ∃ w, S w) : (std Try.prog).stepS S (sIndexAddr 49 (.pointer (some ⟨g, 0, none⟩)) (.int .i64 (p : Nat))) k = k (.pointer (some ⟨g, p, none⟩)) := by
  rw [stepS_run hne fun w _ => run_idxA u49 sz36 (by omega) (by omega), add_mk, Nat.zero_add, Nat.mul_one, Int.toNat_natCast]

/-- what the law keeps of each page: whose it was, who waited -/
def GG (gO gW : Nat) (own : List Int) (ws : List Value) (H : List (Nat × Obj)) : List (Nat × Obj) := (gW, .cells ws.toArray 49 (0, 0)) :: (gO, .cells (intsV .i64 own).toArray 29 (0, 0)) :: H
def Kept (xs : List Lf) (n : Nat) (own : List Int) (ws : List Value) (H : List (Nat × Obj)) : Prop :=
  own.length = 16 ∧ ws.length = 16 ∧ ∀ j : Nat, j < n → own[j]? = some (lfAt xs (j : Int)).owner ∧ ∃ u, ws[j]? = some u ∧ ∀ w', Owns w' H → RdN w' u (lfAt xs (j : Int)).waits
theorem GG_own {gO gW : Nat} {own : List Int} {ws : List Value} {H : List (Nat × Obj)} {w : World} (h : Owns w (GG gO gW own ws H)) {p : Nat} {x : Int} (hx : own[p]? = some x) : w.cell? ⟨gO, p, none⟩ = some (.int .i64 x) := by
  rw [cell_at (h.at_ 1 rfl)]; simp [intsV, hx]
theorem GG_ws {gO gW : Nat} {own : List Int} {ws : List Value} {H : List (Nat × Obj)} {w : World} (h : Owns w (GG gO gW own ws H)) {p : Nat} {u : Value} (hx : ws[p]? = some u) : w.cell? ⟨gW, p, none⟩ = some u := by
  rw [cell_at (h.at_ 0 rfl)]; simpa using hx
theorem GG_H {gO gW : Nat} {own : List Int} {ws : List Value} {H : List (Nat × Obj)} {w : World} (h : Owns w (GG gO gW own ws H)) : Owns w H := h.sub (.cons _ (.cons _ (List.Sublist.refl _)))

section
variable {w : World} {gb gO gW pn : Nat} {inst : Int} {xs : List Lf} {own : List Int} {ws : List Value} {H hr1 : List (Nat × Obj)}

/-- behind one page: the row of who is left is told -/
theorem gone_k7 {i : Nat} {ys : List Lf} {X : List (Nat × Obj)} {w1 : World} {u : Value} {was : Int} {vs : List Value} {again : List Value → World → Prop} {Q : Value → World → Prop}
    (hI : Inv ys) (hi : i < ys.length) (hB : Bk w (X ++ (hr1 ++ GG gO gW own ws H)) gb ys w1) (hwas : was = (lfAt ys (i : Int)).owner) (hu : ∀ w', Owns w' (X ++ (hr1 ++ GG gO gW own ws H)) → RdN w' u (lfAt ys (i : Int)).waits)
    (hk : ∀ ys' w', Inv ys' → ys'.length = ys.length → (∀ j : Nat, j ≠ i → lfAt ys' (j : Int) = lfAt ys (j : Int)) → Bk w (hr1 ++ GG gO gW own ws H) gb ys' w' → flotillalaw20_OwnGone_k4 (std Try.prog) vs again w' Q)
    (e0 : vs.getD 0 undef = .int .i64 i) :
    flotillalaw20_OwnGone_k7 (std Try.prog) (.pointer (some ⟨gb, 0, none⟩)) vs again (.int .i64 (lfAt ys (i : Int)).owner) (.int .i64 was) u w1 Q := by
  unfold flotillalaw20_OwnGone_k7
  subst hwas
  simp only [e0, PX, BX]
  refine ⟨fun h => absurd rfl h, fun _ => ?_⟩
  have hw8 := (hI.at_ (i : Int)).len
  refine st_call (Waits_spec hB hI.n900 (i : Int)) ?_
  rintro r w2 ⟨hr, hrow, hB2, _⟩
  refine st_call (Same_spec (hrow.rd hB2.F) (hu w2 (hB2.F.sub (List.sublist_append_right _ _))) (by omega)) ?_
  rintro _ w3 ⟨rfl, hU3⟩
  have hB3 := (hB2.ext hU3).drop
  simp only [PX, BX, decide_true, Bool.not_true]
  refine st_call (Lost_spec hB3 (i : Int)) ?_
  rintro _ w4 ⟨rfl, he⟩
  subst w4
  rw [bool_var]
  refine ⟨fun hl => ?_, fun hl => hk ys w3 hI rfl (fun _ _ => rfl) hB3.drop⟩
  obtain ⟨q1, q2, q3, q4⟩ := need_lost hI hi hl
  have hnl := need_law hI (i : Int) 8
  refine st_call (Need_spec hB3 hI.n900 (i : Int) 8) ?_
  rintro _ w5 ⟨ro, ho, rfl, hor, hB5, hho⟩
  obtain ⟨A, c, rfl⟩ := (hor.rd hB5.F).len
  rw [q1]
  simp only [PX, BX, List.length_nil]
  refine ⟨fun h => absurd rfl h, fun _ => ?_⟩
  have tail : (std Try.prog).calls 16 #[.pointer (some ⟨gb, 0, none⟩), .int .i64 (i : Nat)] w5 fun v213 w => (std Try.prog).step (sBin .neq 3 (.tmp 213) (.const (.int .i64 0)) v213 (.int .i64 0)) w fun v214 w => flotillalaw20_OwnGone_k9 (std Try.prog) vs again v214 w Q := by
    refine st_call (Owner_spec hB5 (i : Int)) ?_
    rintro _ w6 ⟨rfl, he⟩
    subst w6
    rw [q3]
    unfold flotillalaw20_OwnGone_k9
    simp only [PX, BX]
    exact ⟨fun h => absurd rfl h, fun _ => hk _ w5 hnl.1 hnl.2.1 q4 hB5.drop.drop⟩
  refine ⟨fun h => ⟨fun h9 => ?_, fun _ => tail⟩, fun _ => tail⟩
  rcases q2 with q2 | q2
  · exact absurd q2 h
  · exact absurd q2 h9

/-- who is left is gone through -/
theorem gone_k5 {i : Nat} {ys : List Lf} {w1 : World} {was : Int} {vs : List Value} {again : List Value → World → Prop} {Q : Value → World → Prop}
    (hIx : Inv xs) (hxl : xs.length = pn) (hK : Kept xs pn own ws H) (hI : Inv ys) (hyl : ys.length = pn) (hi : i < pn) (hy : lfAt ys (i : Int) = lfAt (failL xs inst).1 (i : Int)) (hB : Bk w (hr1 ++ GG gO gW own ws H) gb ys w1) (hwas : was = (lfAt ys (i : Int)).owner)
    (hk : ∀ ys' w', Inv ys' → ys'.length = ys.length → (∀ j : Nat, j ≠ i → lfAt ys' (j : Int) = lfAt ys (j : Int)) → Bk w (hr1 ++ GG gO gW own ws H) gb ys' w' → flotillalaw20_OwnGone_k4 (std Try.prog) vs again w' Q)
    (e0 : vs.getD 0 undef = .int .i64 i) :
    flotillalaw20_OwnGone_k5 (std Try.prog) (.int .i64 inst) (.pointer (some ⟨gb, 0, none⟩)) (.pointer (some ⟨gW, 0, none⟩)) vs again (.int .i64 (lfAt ys (i : Int)).owner) (.int .i64 was) w1 Q := by
  unfold flotillalaw20_OwnGone_k5
  have h16 := hIx.1
  obtain ⟨k1, k2, k3⟩ := hK
  obtain ⟨_, u, hu, hur⟩ := k3 i hi
  have hw8 := (hIx.at_ (i : Int)).len
  have hfa := fail_at (inst := inst) (xs := xs) (j := i) (by omega)
  refine st_loop (fun vs w' => ∃ (j : Nat) (hX : List (Nat × Obj)), j ≤ (lfAt xs (i : Int)).waits.length ∧ vs.getD 1 undef = .int .i64 j ∧ RowH 3 1 (vs.getD 0 undef) (without ((lfAt xs (i : Int)).waits.take j) inst).length (intsV .i64 (without ((lfAt xs (i : Int)).waits.take j) inst)) hX ∧ Bk w (hX ++ (hr1 ++ GG gO gW own ws H)) gb ys w' ∧ ∀ q ∈ hX, w.heap.size ≤ q.1)
    (fun vs _ => (lfAt xs (i : Int)).waits.length - (intOf (vs.getD 1 undef)).toNat) ⟨0, [], by omega, rfl, RowH.nil_ _ _, hB, fun q hq => by cases hq⟩ ?_
  clear hB
  rintro dv vs2 w2 - ⟨j, hX, hj, e1, hrow, hB, hhX⟩
  have hG : Owns w2 (GG gO gW own ws H) := hB.F.sub (.trans (List.sublist_append_right _ _) (List.sublist_append_right _ _))
  have cW := GG_ws hG hu
  have hrd := hur w2 (GG_H hG)
  obtain ⟨A, c, hue⟩ := hrd.len
  subst hue
  simp (disch := first | assumption | omega) only [e0, e1, ia49, PX, BX, LX]
  refine ⟨fun hlt => ?_, fun hge => ?_⟩
  · have hlt' : j < (lfAt xs (i : Int)).waits.length := by omega
    obtain ⟨a, _, he, hx⟩ := rdn_at hrd hlt'
    injection he with he _ _
    subst he
    simp (disch := first | assumption | omega) only [PX, BX, LX, Nat.mul_one]
    have next : ∀ (v' : Value) (hX' : List (Nat × Obj)) (w' : World), RowH 3 1 v' (without ((lfAt xs (i : Int)).waits.take (j + 1)) inst).length (intsV .i64 (without ((lfAt xs (i : Int)).waits.take (j + 1)) inst)) hX' → Bk w (hX' ++ (hr1 ++ GG gO gW own ws H)) gb ys w' → (∀ q ∈ hX', w.heap.size ≤ q.1) →
        flotillalaw20_OwnGone_k10 (std Try.prog) vs2 (fun vs' w' => (∃ (j : Nat) (hX : List (Nat × Obj)), j ≤ (lfAt xs (i : Int)).waits.length ∧ vs'.getD 1 undef = .int .i64 j ∧ RowH 3 1 (vs'.getD 0 undef) (without ((lfAt xs (i : Int)).waits.take j) inst).length (intsV .i64 (without ((lfAt xs (i : Int)).waits.take j) inst)) hX ∧ Bk w (hX ++ (hr1 ++ GG gO gW own ws H)) gb ys w' ∧ ∀ q ∈ hX, w.heap.size ≤ q.1) ∧ (lfAt xs (i : Int)).waits.length - (intOf (vs'.getD 1 undef)).toNat < (lfAt xs (i : Int)).waits.length - (intOf (Value.int .i64 (j : Int))).toNat) v' w' Q := by
      intro v' hX' w' h1 h2 h3
      unfold flotillalaw20_OwnGone_k10
      simp (disch := omega) only [e1, PX, w64]
      refine ⟨⟨j + 1, hX', by omega, rfl, h1, h2, h3⟩, ?_⟩
      simp only [List.getD_cons_zero, List.getD_cons_succ, intOf]; omega
    have hws := without_succ (inst := inst) hlt'
    have hwl := without_len ((lfAt xs (i : Int)).waits.take j) inst
    have htl : ((lfAt xs (i : Int)).waits.take j).length ≤ 8 := by rw [List.length_take]; omega
    refine ⟨fun hne => ?_, fun he => ?_⟩
    · rw [if_neg hne] at hws
      obtain ⟨R, hO, hcl⟩ := hB.open
      rw [List.append_assoc] at hO
      refine st_apn hB.upd hO hrow (by omega) hhX ?_
      intro v' w' h' hr' hO' hU' hh'
      rw [← hws] at hr'
      refine next v' h' w' hr' (hcl _ w' ?_ hU') hh'
      rw [List.append_assoc]; exact hO'
    · have he := Decidable.byContradiction he
      rw [if_pos he, List.append_nil] at hws
      exact next _ hX w2 (by rw [hws]; exact hrow) hB hhX
  · have hje : j = (lfAt xs (i : Int)).waits.length := by omega
    subst hje
    rw [List.take_length] at hrow
    unfold flotillalaw20_OwnGone_k6
    simp (disch := first | assumption | omega) only [e0, ia49, PX, BX, LX]
    have whole : ¬ (1 ≤ inst ∧ inst ≤ 8) → flotillalaw20_OwnGone_k7 (std Try.prog) (.pointer (some ⟨gb, 0, none⟩)) vs again (.int .i64 (lfAt ys (i : Int)).owner) (.int .i64 was) (.slice A (lfAt xs (i : Int)).waits.length c) w2 Q := by
      intro hn
      refine gone_k7 (X := hX) hI (by omega) hB hwas (fun w' hO => ?_) hk e0
      rw [hy, hfa, if_neg hn]
      exact hur w' (GG_H (hO.sub (.trans (List.sublist_append_right _ _) (List.sublist_append_right _ _))))
    refine ⟨fun h => whole (by omega), fun h1 => ⟨fun h => whole (by omega), fun h8 => ?_⟩⟩
    refine gone_k7 (X := hX) hI (by omega) hB hwas (fun w' hO => ?_) hk e0
    have hwe : (lfAt ys (i : Int)).waits = without (lfAt xs (i : Int)).waits inst := by
      rw [hy, hfa, if_pos (by omega)]
      unfold failX
      split <;> rfl
    rw [hwe]
    exact hrow.rd hO
end
end Go.Proofs.Ytilfkccahlkcaaa
