/- Calls that give a ring of its own with one frame changed. -/
import Derived.Test.YtnghnolpohahpaaS4
namespace Go.Proofs.Ytnghnolpohahpaa
open Go Xf Go.RowKit
set_option linter.unusedVariables false
set_option linter.unusedSimpArgs false
set_option maxRecDepth 100000

theorem framesV_set1 (fs : List Fr) (i k : Nat) (hi : i < fs.length) (hk : k < 3) (v : Value) (f' : Fr) (hv : (frV fs[i]).set k v = frV f') : (framesV fs).set (i * 3 + k) v = framesV (fs.set i f') := by
  induction fs generalizing i with
  | nil => simp at hi
  | cons f fs ih =>
    cases i with
    | zero =>
      show (frV f ++ framesV fs).set (0 * 3 + k) v = frV f' ++ framesV fs
      rw [Nat.zero_mul, Nat.zero_add, List.set_append_left _ _ (by simp [frV]; omega)]
      rw [← hv]; rfl
    | succ i =>
      show (frV f ++ framesV fs).set ((i + 1) * 3 + k) v = frV f ++ framesV (fs.set i f')
      rw [List.set_append_right _ _ (by simp [frV]; omega), show (i + 1) * 3 + k - (frV f).length = i * 3 + k by simp [frV]; omega]
      rw [ih i (by simpa using hi) (by simpa using hv)]

/-- what a call answers: an error and no ring, or a ring of its own -/
def RingE (w w' : World) (r : Value) : Nat ⊕ (List Fr × Int) → Prop
  | .inl e => r = .tuple #[ringZ, .int .i64 (e : Nat)] ∧ Upd w w' []
  | .inr p => ∃ g x, NewRing w w' x g p.1 p.2 ∧ r = .tuple #[x, .int .i64 0]

/-- the frame of a page, changed by f (which may refuse with an error) -/
noncomputable def changeR (fs : List Fr) (hand page : Int) (f : Fr → Nat ⊕ Fr) : Nat ⊕ (List Fr × Int) :=
  if May fs hand then
    if atR fs hand page < 0 then .inl 8
    else match fs[(atR fs hand page).toNat]? with
      | none => .inl 8
      | some x => match f x with
        | .inl e => .inl e
        | .inr y => .inr (fs.set (atR fs hand page).toNat y, hand)
  else .inl 1

theorem changeR_at {fs : List Fr} {hand page : Int} {f : Fr → Nat ⊕ Fr} {i : Nat} (hm : May fs hand) (hi : i < fs.length) (ha : atR fs hand page = i) :
    changeR fs hand page f = match f fs[i] with | .inl e => .inl e | .inr y => .inr (fs.set i y, hand) := by
  unfold changeR
  rw [if_pos hm, ha, if_neg (by omega), show ((i : Nat) : Int).toNat = i by omega, List.getElem?_eq_getElem hi]

theorem ring_one {w w' : World} {v : Value} {g : Nat} {fs : List Fr} {hand : Int} (h : NewRing w w' v g fs hand) : v = .agg #[.slice (some ⟨g, 0, none⟩) fs.length fs.length, .int .i64 hand] := h.1

def dropF (f : Fr) : Nat ⊕ Fr := if 0 < f.pins then .inl 10 else .inr ⟨-1, false, 0⟩
def touchF (f : Fr) : Nat ⊕ Fr := .inr ⟨f.page, true, f.pins⟩
def pinF (n : Int) (f : Fr) : Nat ⊕ Fr := if n < -f.pins ∨ 1048576 - f.pins < n then .inl 10 else .inr ⟨f.page, f.used, f.pins + n⟩

theorem found2 {w w' : World} {fs : List Fr} {hand page : Int} {x : Value} (h : (¬ May fs hand ∧ x = .tuple #[ringZ, .pointer none, .int .i64 1]) ∨ (May fs hand ∧ atR fs hand page = -1 ∧ x = .tuple #[ringZ, .pointer none, .int .i64 8]) ∨
      (May fs hand ∧ ∃ (i g : Nat) (hi : i < fs.length) (y : Value), 0 ≤ page ∧ atR fs hand page = i ∧ fs[i].page = page ∧ NewRing w w' y g fs hand ∧ x = .tuple #[y, .pointer (some ⟨g, i * 3, none⟩), .int .i64 0])) :
    (∃ e : Nat, e ≠ 0 ∧ x = .tuple #[ringZ, .pointer none, .int .i64 (e : Nat)] ∧ ∀ f, changeR fs hand page f = .inl e) ∨
    ∃ (i g : Nat) (hi : i < fs.length), May fs hand ∧ fs[i].page = page ∧ NewRing w w' (.agg #[.slice (some ⟨g, 0, none⟩) fs.length fs.length, .int .i64 hand]) g fs hand ∧ x = .tuple #[.agg #[.slice (some ⟨g, 0, none⟩) fs.length fs.length, .int .i64 hand], .pointer (some ⟨g, i * 3, none⟩), .int .i64 0] ∧ ∀ f, changeR fs hand page f = match f fs[i] with | .inl e => .inl e | .inr y => .inr (fs.set i y, hand) := by
  rcases h with ⟨h1, h2⟩ | ⟨h1, h2, h3⟩ | ⟨h1, i, g, hi, y, _, h3, h4, h5, h6⟩
  · exact .inl ⟨1, by omega, h2, fun f => by unfold changeR; rw [if_neg h1]⟩
  · exact .inl ⟨8, by omega, h3, fun f => by unfold changeR; rw [if_pos h1, if_pos (by omega)]⟩
  · obtain rfl := h5.1
    exact .inr ⟨i, g, hi, h1, h4, h5, h6, fun f => changeR_at h1 hi h3⟩

/-- behind an error that 'found' answers -/
theorem err_tail {W w : World} {h : List (Nat × Obj)} {g2 e : Nat} {o : Operand} {R : Nat ⊕ (List Fr × Int)} {REST : Value → World → Prop} {a b : Value} (hU : Upd W w []) (hO : Owns w ((g2, .cells #[a, b] 24 (0, 0)) :: h)) (hg2 : W.heap.size ≤ g2) (he : e ≠ 0) (hR : R = .inl e) :
    (std Try.prog).step (sAlloc 24) w fun v6 w => (std Try.prog).step (sStore 24 v6 ringZ) w fun _ w => (std Try.prog).step (sBin .neq 25 o (.const (.int .i64 0)) (.int .i64 (e : Nat)) (.int .i64 0)) w fun v17 w =>
      (std Try.prog).bool v17 ((std Try.prog).step (sBuild 24 []) w fun v18 w => (std Try.prog).step (sStore 24 (.pointer (some ⟨g2, 0, none⟩)) v18) w fun _ w => (std Try.prog).loadR 24 (.pointer (some ⟨g2, 0, none⟩)) w fun r => RingE W w (.tuple #[r, .int .i64 (e : Nat)]) R) (REST v6 w) := by
  refine st_alloc ze24 hU hO ?_
  intro g6 w1 hU1 hO1 hg6
  refine st_ring hU1 hO1 0 rfl rfl rfl (.inr hg6) ?_
  intro w2 hU2 hO2 d0 d1
  rw [px_neq, bool_dec]
  refine ⟨fun _ => ?_, fun h => absurd (by simpa using he) h⟩
  rw [step_run (build0 _)]
  refine st_ring hU2 hO2 1 rfl rfl rfl (.inr hg2) ?_
  intro w3 hU3 hO3 d0 d1
  refine ldr24 d0 d1 ?_
  rw [hR]
  exact ⟨rfl, hU3⟩

/-- a ring whose one frame is changed is told -/
theorem tell_ring {W w : World} {g g2 g6 : Nat} {fs : List Fr} {hand : Int} {a b : Value} {R : Nat ⊕ (List Fr × Int)} (hU : Upd W w []) (hO : Owns w [(g6, .cells #[.slice (some ⟨g, 0, none⟩) fs.length fs.length, .int .i64 hand] 24 (0, 0)), (g, .cells (framesV fs).toArray 31 (0, 0)), (g2, .cells #[a, b] 24 (0, 0))])
    (hg : W.heap.size ≤ g) (hg2 : W.heap.size ≤ g2) (hm : fs.length ≤ maxLen) (hR : R = .inr (fs, hand)) :
    (std Try.prog).step (sLoad 24 (.pointer (some ⟨g6, 0, none⟩))) w fun v23 w => (std Try.prog).step (sStore 24 (.pointer (some ⟨g2, 0, none⟩)) v23) w fun _ w => (std Try.prog).loadR 24 (.pointer (some ⟨g2, 0, none⟩)) w fun r => RingE W w (.tuple #[r, .int .i64 0]) R := by
  have c0 : w.cell? ⟨g6, 0, none⟩ = some (.slice (some ⟨g, 0, none⟩) fs.length fs.length) := cell_at (hO.at_ 0 rfl)
  have c1 : w.cell? ⟨g6, 1, none⟩ = some (.int .i64 hand) := cell_at (hO.at_ 0 rfl)
  rw [ld24 c0 c1]
  refine st_ring hU hO 2 rfl rfl rfl (.inr hg2) ?_
  intro w3 hU3 hO3 d0 d1
  refine ldr24 d0 d1 ?_
  rw [hR]
  exact ⟨g, _, ⟨rfl, hm, hO3.sub (by simp), hU3, hg⟩, rfl⟩

theorem own3 {w w' : World} {g g2 : Nat} {h : List (Nat × Obj)} {o o' : Obj} (hO : Owns w ((g2, o) :: h)) (hO' : Owns w' [(g, o')]) (hU : Upd w w' []) (hg : w.heap.size ≤ g) : Owns w' [(g, o'), (g2, o)] := by
  refine ⟨?_, fun p hp => ?_⟩
  · have := hO.lt (p := (g2, o)) (List.mem_cons_self ..)
    simp at this ⊢; omega
  · simp at hp
    rcases hp with rfl | rfl
    · exact hO'.at_ 0 rfl
    · exact (hO.ext hU).at_ 0 rfl

theorem Touch_spec (w : World) (v : Value) (fs : List Fr) (hand page : Int) (hr : RingAt w v fs hand) :
    CallsR Try.prog 18 #[v, .int .i64 page] w fun r w' => RingE w w' r (changeR fs hand page touchF) := by
  apply clock_Touch_sound
  unfold clock_Touch_x
  have hr' := hr
  obtain ⟨A, c, rfl, hm, hrd⟩ := hr'
  refine st_box (Upd.refl w []) (Owns.nil w) ?_
  intro g w1 hU1 hO1 hg
  refine st_alloc ze24 hU1 hO1 ?_
  intro g2 w2 hU2 hO2 hg2
  have c0 : w2.cell? ⟨g, 0, none⟩ = some (.slice A fs.length c) := cell_at (hO2.at_ 1 rfl)
  have c1 : w2.cell? ⟨g, 1, none⟩ = some (.int .i64 hand) := cell_at (hO2.at_ 1 rfl)
  simp (disch := first | assumption | omega) only [PX, BX, LX, add_mk, Nat.reduceAdd, ld24]
  refine st_call (found_spec w2 _ fs hand page (hr.mono hU2)) ?_
  clear hU1 hO1 c0 c1
  rintro x w3 ⟨hU3, hres⟩
  have hO3 := hO2.ext hU3
  have hUw3 := hU2.trans hU3
  rcases found2 hres with ⟨e, he, rfl, hR⟩ | ⟨i, g3, hi, hmay, hpg, hN, rfl, hR⟩
  · rw [px_ext30, px_ext31, px_ext32]
    exact err_tail hUw3 hO3 hg2 he (hR _)
  · rw [px_ext30, px_ext31, px_ext32]
    obtain ⟨_, hmx, hOg, _, hg3⟩ := hN
    have hg3' : w.heap.size ≤ g3 := Nat.le_trans hU2.size hg3
    refine st_alloc ze24 hUw3 (own3 hO2 hOg hU3 hg3) ?_
    intro g6 w4 hU4 hO4 hg6
    refine st_ring hU4 hO4 0 rfl rfl rfl (.inr hg6) ?_
    intro w5 hU5 hO5 d0 d1
    simp (disch := first | assumption | omega) only [PX, BX, LX, add_mk, Nat.reduceAdd]
    refine ⟨fun h => absurd rfl h, fun _ => ?_⟩
    refine st_storeB sz4 rfl hU5 hO5 1 rfl (by simp [framesV_len]; omega) (.inr (Nat.zero_le _)) (.inr hg3') ?_
    intro w6 hU6 hO6
    have e : (framesV fs).toArray.setIfInBounds (i * 3 + 1) (.bool true) = (framesV (fs.set i ⟨fs[i].page, true, fs[i].pins⟩)).toArray := by
      rw [List.setIfInBounds_toArray, framesV_set1 fs i 1 hi (by omega) _ ⟨fs[i].page, true, fs[i].pins⟩ rfl]
    rw [e] at hO6
    have hl : fs.length = (fs.set i ⟨fs[i].page, true, fs[i].pins⟩).length := by simp
    refine tell_ring (a := .slice none 0 0) (b := .int .i64 0) (fs := fs.set i ⟨fs[i].page, true, fs[i].pins⟩) (hand := hand) hU6 ?_ hg3' hg2 (by rw [← hl]; exact hmx) (by rw [hR]; rfl)
    rw [← hl]
    exact hO6

theorem Drop_spec (w : World) (v : Value) (fs : List Fr) (hand page : Int) (hr : RingAt w v fs hand) :
    CallsR Try.prog 20 #[v, .int .i64 page] w fun r w' => RingE w w' r (changeR fs hand page dropF) := by
  apply clock_Drop_sound
  unfold clock_Drop_x
  have hr' := hr
  obtain ⟨A, c, rfl, hm, hrd⟩ := hr'
  refine st_box (Upd.refl w []) (Owns.nil w) ?_
  intro g w1 hU1 hO1 hg
  refine st_alloc ze24 hU1 hO1 ?_
  intro g2 w2 hU2 hO2 hg2
  have c0 : w2.cell? ⟨g, 0, none⟩ = some (.slice A fs.length c) := cell_at (hO2.at_ 1 rfl)
  have c1 : w2.cell? ⟨g, 1, none⟩ = some (.int .i64 hand) := cell_at (hO2.at_ 1 rfl)
  simp (disch := first | assumption | omega) only [PX, BX, LX, add_mk, Nat.reduceAdd, ld24]
  refine st_call (found_spec w2 _ fs hand page (hr.mono hU2)) ?_
  clear hU1 hO1 c0 c1
  rintro x w3 ⟨hU3, hres⟩
  have hO3 := hO2.ext hU3
  have hUw3 := hU2.trans hU3
  rcases found2 hres with ⟨e, he, rfl, hR⟩ | ⟨i, g3, hi, hmay, hpg, hN, rfl, hR⟩
  · rw [px_ext30, px_ext31, px_ext32]
    exact err_tail hUw3 hO3 hg2 he (hR _)
  · rw [px_ext30, px_ext31, px_ext32]
    obtain ⟨_, hmx, hOg, _, hg3⟩ := hN
    have hg3' : w.heap.size ≤ g3 := Nat.le_trans hU2.size hg3
    refine st_alloc ze24 hUw3 (own3 hO2 hOg hU3 hg3) ?_
    intro g6 w4 hU4 hO4 hg6
    refine st_ring hU4 hO4 0 rfl rfl rfl (.inr hg6) ?_
    intro w5 hU5 hO5 d0 d1
    have hfr := hmay.2.2.2.2 i hi
    obtain ⟨⟨o1, o2, o3, o4, o5⟩, _⟩ := hfr
    have f2 : w5.cell? ⟨g3, i * 3 + 2, none⟩ = some (.int .i64 fs[i].pins) := by
      rw [cell_at (hO5.at_ 1 rfl), List.getElem?_toArray, framesV_at hi 2 (by omega)]; rfl
    simp (disch := first | assumption | omega) only [PX, BX, LX, add_mk, Nat.reduceAdd]
    refine ⟨fun h => absurd rfl h, fun _ => ⟨fun hp => ?_, fun hp => ?_⟩⟩
    · rw [step_run (build0 _)]
      refine st_ring hU5 hO5 2 rfl rfl rfl (.inr hg2) ?_
      intro w6 hU6 hO6 d0 d1
      refine ldr24 d0 d1 ?_
      rw [hR]; unfold dropF; rw [if_pos hp]
      exact ⟨rfl, hU6⟩
    · rw [step_run (show (sBuild 31 [(0, .int .i64 (-1))]).run Try.prog w5 = .ok (.value (.agg (frV ⟨-1, false, 0⟩).toArray)) w5 by kernel_rfl)]
      refine st_storeN (vs := frV ⟨-1, false, 0⟩) (by rw [sz31]; rfl) hU5 hO5 1 rfl (by simp [framesV_len, frV]; omega) (frV_one _) (.inr hg3') ?_
      intro w6 hU6 hO6
      have e : (List.take (i * 3) (framesV fs).toArray.toList ++ frV ⟨-1, false, 0⟩ ++ List.drop (i * 3 + (frV ⟨-1, false, 0⟩).length) (framesV fs).toArray.toList).toArray = (framesV (fs.set i ⟨-1, false, 0⟩)).toArray := by
        rw [framesV_set fs i hi]; rfl
      rw [e] at hO6
      have hl : fs.length = (fs.set i ⟨-1, false, 0⟩).length := by simp
      refine tell_ring (a := .slice none 0 0) (b := .int .i64 0) (fs := fs.set i ⟨-1, false, 0⟩) (hand := hand) hU6 ?_ hg3' hg2 (by rw [← hl]; exact hmx) (by rw [hR]; unfold dropF; rw [if_neg hp])
      rw [← hl]
      exact hO6

theorem Pin_spec (w : World) (v : Value) (fs : List Fr) (hand page n : Int) (hn0 : -9223372036854775808 ≤ n) (hn1 : n < 9223372036854775808) (hr : RingAt w v fs hand) :
    CallsR Try.prog 25 #[v, .int .i64 page, .int .i64 n] w fun r w' => RingE w w' r (changeR fs hand page (pinF n)) := by
  apply clock_Pin_sound
  unfold clock_Pin_x
  have hr' := hr
  obtain ⟨A, c, rfl, hm, hrd⟩ := hr'
  refine st_box (Upd.refl w []) (Owns.nil w) ?_
  intro g w1 hU1 hO1 hg
  refine st_alloc ze24 hU1 hO1 ?_
  intro g2 w2 hU2 hO2 hg2
  have c0 : w2.cell? ⟨g, 0, none⟩ = some (.slice A fs.length c) := cell_at (hO2.at_ 1 rfl)
  have c1 : w2.cell? ⟨g, 1, none⟩ = some (.int .i64 hand) := cell_at (hO2.at_ 1 rfl)
  simp (disch := first | assumption | omega) only [PX, BX, LX, add_mk, Nat.reduceAdd, ld24]
  refine st_call (found_spec w2 _ fs hand page (hr.mono hU2)) ?_
  clear hU1 hO1 c0 c1
  rintro x w3 ⟨hU3, hres⟩
  have hO3 := hO2.ext hU3
  have hUw3 := hU2.trans hU3
  rcases found2 hres with ⟨e, he, rfl, hR⟩ | ⟨i, g3, hi, hmay, hpg, hN, rfl, hR⟩
  · rw [px_ext30, px_ext31, px_ext32]
    exact err_tail hUw3 hO3 hg2 he (hR _)
  · rw [px_ext30, px_ext31, px_ext32]
    obtain ⟨_, hmx, hOg, _, hg3⟩ := hN
    have hg3' : w.heap.size ≤ g3 := Nat.le_trans hU2.size hg3
    refine st_alloc ze24 hUw3 (own3 hO2 hOg hU3 hg3) ?_
    intro g6 w4 hU4 hO4 hg6
    refine st_ring hU4 hO4 0 rfl rfl rfl (.inr hg6) ?_
    intro w5 hU5 hO5 d0 d1
    have hfr := hmay.2.2.2.2 i hi
    obtain ⟨⟨o1, o2, o3, o4, o5⟩, _⟩ := hfr
    have f2 : w5.cell? ⟨g3, i * 3 + 2, none⟩ = some (.int .i64 fs[i].pins) := by
      rw [cell_at (hO5.at_ 1 rfl), List.getElem?_toArray, framesV_at hi 2 (by omega)]; rfl
    simp (disch := first | assumption | omega) only [PX, BX, LX, add_mk, Nat.reduceAdd, w64]
    have bad : ∀ R : Nat ⊕ (List Fr × Int), R = .inl 10 → (std Try.prog).step (sBuild 24 []) w5 fun v => fun u => (std Try.prog).step (sStore 24 (.pointer (some ⟨g2, 0, none⟩)) v) u fun _ u => (std Try.prog).loadR 24 (.pointer (some ⟨g2, 0, none⟩)) u fun r => RingE w u (.tuple #[r, .int .i64 10]) R := by
      intro R hR
      rw [step_run (build0 _)]
      refine st_ring hU5 hO5 2 rfl rfl rfl (.inr hg2) ?_
      intro w6 hU6 hO6 d0 d1
      refine ldr24 d0 d1 ?_
      rw [hR]
      exact ⟨rfl, hU6⟩
    refine ⟨fun h => absurd rfl h, fun _ => ⟨fun hp => bad (changeR fs hand page (pinF n)) (by rw [hR]; unfold pinF; rw [if_pos (.inl (by omega))]), fun hp => ⟨fun hq => bad (changeR fs hand page (pinF n)) (by rw [hR]; unfold pinF; rw [if_pos (.inr (by omega))]), fun hq => ?_⟩⟩⟩
    refine st_storeB sz3 rfl hU5 hO5 1 rfl (by simp [framesV_len]; omega) (.inr (Nat.zero_le _)) (.inr hg3') ?_
    intro w6 hU6 hO6
    rw [w64 (a := fs[i].pins + n) (by omega) (by omega)] at hO6
    have e : (framesV fs).toArray.setIfInBounds (i * 3 + 2) (.int .i64 (fs[i].pins + n)) = (framesV (fs.set i ⟨fs[i].page, fs[i].used, fs[i].pins + n⟩)).toArray := by
      rw [List.setIfInBounds_toArray, framesV_set1 fs i 2 hi (by omega) _ ⟨fs[i].page, fs[i].used, fs[i].pins + n⟩ rfl]
    rw [e] at hO6
    have hl : fs.length = (fs.set i ⟨fs[i].page, fs[i].used, fs[i].pins + n⟩).length := by simp
    refine tell_ring (a := .slice none 0 0) (b := .int .i64 0) (fs := fs.set i ⟨fs[i].page, fs[i].used, fs[i].pins + n⟩) (hand := hand) hU6 ?_ hg3' hg2 (by rw [← hl]; exact hmx) (by rw [hR]; unfold pinF; rw [if_neg (by omega)])
    rw [← hl]
    exact hO6

end Go.Proofs.Ytnghnolpohahpaa
