/- The document's calls. -/
import Derived.Test.YtnghnolpohahpaaS17
namespace Go.Proofs.Ytnghnolpohahpaa
open Go Xf Go.RowKit
set_option linter.unusedVariables false
set_option linter.unusedSimpArgs false
set_option maxRecDepth 100000

/-- a ring with frame i another one; none, if i is not there -/
def withL (fs : List Fr) (i : Int) (f : Fr) : List Fr := if 0 ≤ i then fs.set i.toNat f else fs
theorem withL_len (fs : List Fr) (i : Int) (f : Fr) : (withL fs i f).length = fs.length := by unfold withL; split <;> simp
theorem withL_at (fs : List Fr) (i : Int) (f : Fr) (k : Nat) (hk : k < (withL fs i f).length) (hk' : k < fs.length) : (withL fs i f)[k] = if (k : Int) = i then f else fs[k] := by
  unfold withL
  by_cases h0 : 0 ≤ i
  · simp only [if_pos h0, List.getElem_set]
    by_cases hki : (k : Int) = i
    · rw [if_pos hki, if_pos (by omega)]
    · rw [if_neg hki, if_neg (by omega)]
  · simp only [if_neg h0, if_neg (show ¬ (k : Int) = i by omega)]

theorem row1 (f : Fr) (w : World) : (sBuildSlice 22 1 [(0, .agg (frV f).toArray)]).run Try.prog w = .ok (.value (.slice (some ⟨w.heap.size, 0, none⟩) 1 1)) (w.alloc (.cells (framesV [f]).toArray 31)) := by kernel_rfl

theorem row_ring {w W : World} {v : Value} {fs : List Fr} {h : List (Nat × Obj)} (hand : Int) (hr : RowH 31 3 v fs.length (framesV fs) h) (hO : Owns w h) (hh : ∀ p ∈ h, W.heap.size ≤ p.1) (hm : fs.length ≤ maxLen) : ∃ A c, v = .slice A fs.length c ∧ RingAt w (.agg #[v, .int .i64 hand]) fs hand ∧ FreshV W (.agg #[v, .int .i64 hand]) := by
  have hrd := hr.rd (F := []) (by rw [List.append_nil]; exact hO)
  obtain ⟨A, c, rfl, h1, h2, h3⟩ := hrd
  refine ⟨A, c, rfl, ⟨A, c, rfl, hm, A, c, rfl, h1, h2, h3⟩, ?_⟩
  rintro a n c' x he
  simp at he
  obtain ⟨⟨rfl, rfl, rfl⟩, rfl⟩ := he
  rcases hr.2 with ⟨he, _⟩ | ⟨g, cap, cs, he, rfl, _⟩
  · simp at he
  · simp at he
    obtain ⟨rfl, _⟩ := he
    show W.heap.size ≤ g
    exact hh (g, _) (List.mem_cons_self ..)

theorem with_spec (w : World) (v : Value) (fs : List Fr) (hand i : Int) (f : Fr) (hr : RingAt w v fs hand) (hn : fs.length ≤ 1000) :
    CallsR Try.prog 31 #[v, .int .i64 i, .agg (frV f).toArray] w fun r w' => RingAt w' r (withL fs i f) hand ∧ FreshV w r ∧ Upd w w' [] := by
  apply flotillaref14_with_sound
  unfold flotillaref14_with_x
  have hr' := hr
  obtain ⟨A, c, rfl, hm, hrd⟩ := hr'
  refine st_box (Upd.refl w []) (Owns.nil w) ?_
  intro g3 w1 hU1 hO1 hg3
  refine st_box hU1 hO1 ?_
  intro g5 w2 hU2 hO2 hg5
  refine st_alloc ze24 hU2 hO2 ?_
  intro g6 w3 hU3 hO3 hg6
  have hO3 : Owns w3 [(g6, .cells #[.slice none 0 0, .int .i64 0] 24 (0, 0)), (g5, .cells #[.int .i64 f.page, .bool f.used, .int .i64 f.pins] 31 (0, 0)), (g3, .cells #[.slice A fs.length c, .int .i64 hand] 24 (0, 0))] := hO3
  refine st_loop (fun vs w' => ∃ (k : Nat) (h : List (Nat × Obj)), k ≤ fs.length ∧ vs.getD 1 undef = .int .i64 k ∧ RowH 31 3 (vs.getD 0 undef) k (framesV ((withL fs i f).take k)) h ∧ Upd w w' [] ∧ (∀ p ∈ h, w.heap.size ≤ p.1) ∧ Owns w' (h ++ [(g6, .cells #[.slice none 0 0, .int .i64 0] 24 (0, 0)), (g5, .cells #[.int .i64 f.page, .bool f.used, .int .i64 f.pins] 31 (0, 0)), (g3, .cells #[.slice A fs.length c, .int .i64 hand] 24 (0, 0))]))
    (fun vs _ => fs.length - (intOf (vs.getD 1 undef)).toNat) ⟨0, [], by omega, rfl, RowH.nil_ _ _, hU3, (fun p hp => by cases hp), hO3⟩ ?_
  clear hU1 hO1 hU2 hO2 hU3 hO3
  rintro dv vs w4 - ⟨k, h, hk, e1, hrow, hU4, hh, hO4⟩
  have hO4' := hO4.sub (List.sublist_append_right _ _)
  have c0 : w4.cell? ⟨g3, 0, none⟩ = some (.slice A fs.length c) := cell_at (hO4'.at_ 2 rfl)
  have c1 : w4.cell? ⟨g3, 1, none⟩ = some (.int .i64 hand) := cell_at (hO4'.at_ 2 rfl)
  simp (disch := first | assumption | omega) only [PX, BX, LX, e1, add_mk, Nat.reduceAdd]
  refine ⟨fun hlt => ?_, fun hge => ?_⟩
  · have hk' : k < fs.length := by omega
    have hkw : k < (withL fs i f).length := by rw [withL_len]; exact hk'
    have app : ∀ f', f' = (withL fs i f)[k] → (std Try.prog).step (sBuildSlice 22 1 [(0, .agg (frV f').toArray)]) w4 fun v21 => fun u => (std Try.prog).step (sBuiltin .append #[22, 22] 22 [false, false] [(vs.getD 0 undef), v21]) u fun v22 u => flotillaref14_with_k2 (std Try.prog) vs (fun vs' w' => (∃ (k : Nat) (h : List (Nat × Obj)), k ≤ fs.length ∧ vs'.getD 1 undef = .int .i64 k ∧ RowH 31 3 (vs'.getD 0 undef) k (framesV ((withL fs i f).take k)) h ∧ Upd w w' [] ∧ (∀ p ∈ h, w.heap.size ≤ p.1) ∧ Owns w' (h ++ [(g6, .cells #[.slice none 0 0, .int .i64 0] 24 (0, 0)), (g5, .cells #[.int .i64 f.page, .bool f.used, .int .i64 f.pins] 31 (0, 0)), (g3, .cells #[.slice A fs.length c, .int .i64 hand] 24 (0, 0))])) ∧ fs.length - (intOf (vs'.getD 1 undef)).toNat < fs.length - (intOf (.int .i64 (k : Nat))).toNat) v22 u fun r w' => RingAt w' r (withL fs i f) hand ∧ FreshV w r ∧ Upd w w' [] := by
      intro f' hf'
      refine st_newRow (row1 f') hU4 hO4 ?_
      intro g7 w5 hU5 hO5 hg7
      obtain ⟨inf, hi1, hz1, hs, hb⟩ := inf31
      refine st_append (F := (g7, Obj.cells (framesV [f']).toArray 31 (0, 0)) :: [(g6, .cells #[.slice none 0 0, .int .i64 0] 24 (0, 0)), (g5, .cells #[.int .i64 f.page, .bool f.used, .int .i64 f.pins] 31 (0, 0)), (g3, .cells #[.slice A fs.length c, .int .i64 hand] 24 (0, 0))]) u22 hi1 hz1 hs hb rfl (by omega) hrow (hO5.perm List.perm_middle.symm) hU5 (fun q hq => .inr (hh q hq)) (rd_own (fs := [f']) rfl (hO5.at_ 0 rfl)) (framesV_one _) (by unfold maxLen; omega) (by omega) ?_
      intro v8 w8 h8 hr8 hO8 hU8 hh8
      unfold flotillaref14_with_k2
      simp (disch := first | assumption | omega) only [PX, e1, w64]
      refine ⟨⟨k + 1, h8, by omega, rfl, ?_, hU8, fun q hq => (hh8 q hq).resolve_left (by simp), hO8.sub (List.Sublist.append (List.Sublist.refl _) (.cons _ (List.Sublist.refl _)))⟩, ?_⟩
      · rw [framesV_append] at hr8
        rw [List.take_succ_eq_append_getElem hkw, ← hf']
        exact hr8
      · simp only [List.getD_cons_succ, List.getD_cons_zero, intOf]; omega
    refine ⟨fun he => ?_, fun he => ?_⟩
    · have f0 : w4.cell? ⟨g5, 0, none⟩ = some (.int .i64 f.page) := cell_at (hO4'.at_ 1 rfl)
      have f1 : w4.cell? ⟨g5, 1, none⟩ = some (.bool f.used) := cell_at (hO4'.at_ 1 rfl)
      have f2 : w4.cell? ⟨g5, 2, none⟩ = some (.int .i64 f.pins) := cell_at (hO4'.at_ 1 rfl)
      rw [ld31 f0 f1 f2]
      exact app f (by rw [withL_at fs i f k hkw hk', if_pos he])
    · obtain ⟨a, rfl, f0, f1, f2⟩ := fr_at hrd hk'
      rw [idx22 hk', ldA31 (f0 w4 hU4) (by rw [add_add']; exact f1 w4 hU4) (by rw [add_add']; exact f2 w4 hU4)]
      exact app fs[k] (by rw [withL_at fs i f k hkw hk', if_neg he])
  · obtain rfl : k = fs.length := by omega
    unfold flotillaref14_with_k1
    simp (disch := first | assumption | omega) only [PX, LX, add_mk, Nat.reduceAdd]
    rw [List.take_of_length_le (by rw [withL_len]; exact Nat.le_refl _)] at hrow
    have hrow : RowH 31 3 (vs.getD 0 undef) (withL fs i f).length (framesV (withL fs i f)) h := by rw [withL_len]; exact hrow
    obtain ⟨A', c', hv, hra, hfr⟩ := row_ring (W := w) hand hrow (hO4.sub (List.sublist_append_left _ _)) hh (by rw [withL_len]; exact hm)
    rw [step_run (show (sBuild 24 [(0, vs.getD 0 undef), (1, .int .i64 hand)]).run Try.prog w4 = .ok (.value (.agg #[vs.getD 0 undef, .int .i64 hand])) w4 by rw [hv]; kernel_rfl)]
    have hO5 := hO4.perm (List.perm_append_comm)
    rw [hv] at hra hfr ⊢
    refine st_ring (Upd.refl w4 [g6]) hO5 0 rfl rfl rfl (.inl (by simp)) ?_
    intro w6 hU6 hO6 d0 d1
    refine ldr24 d0 d1 ⟨?_, hfr, hU4.then_ hU6 fun x hx => .inr (by simp at hx; subst hx; exact hg6)⟩
    -- the row is none of the variables
    have hnd := hO4.1
    refine hra.upd hU6 fun a n c'' x he hm => ?_
    simp at he
    obtain ⟨⟨rfl, rfl, rfl⟩, rfl⟩ := he
    simp at hm
    rcases hrow.2 with ⟨he, _⟩ | ⟨g, cap, cs, he, rfl, _⟩
    · rw [hv] at he; simp at he
    · rw [hv] at he; simp at he
      obtain ⟨rfl, _⟩ := he
      simp at hm hnd
      exact hnd.1.1 hm

/-- what the document answers -/
def RefE (w w' : World) (r : Value) (R : Nat ⊕ (List Fr × Int)) : Prop :=
  ∃ (x : Value) (e : Nat) (gs : List Fr) (hd : Int), r = .tuple #[x, .int .i64 (e : Nat)] ∧ RingAt w' x gs hd ∧ FreshV w x ∧ Upd w w' [] ∧ ((R = .inl e ∧ gs = [] ∧ hd = 0) ∨ (e = 0 ∧ R = .inr (gs, hd)))
theorem ringZ_at (w : World) : RingAt w ringZ [] 0 := ⟨none, 0, rfl, Nat.zero_le _, Rd.nil_ _ _⟩
theorem ringZ_fresh (w : World) : FreshV w ringZ := by
  rintro a n c x he
  simp [ringZ] at he
theorem ref_err {W w : World} {g2 e : Nat} {a b : Value} {R : Nat ⊕ (List Fr × Int)} (hU : Upd W w []) {h : List (Nat × Obj)} (i : Nat) (hO : Owns w h) (hi : h[i]? = some (g2, .cells #[a, b] 24 (0, 0))) (hg2 : W.heap.size ≤ g2) (hR : R = .inl e) :
    (std Try.prog).step (sBuild 24 []) w fun v => fun u => (std Try.prog).step (sStore 24 (.pointer (some ⟨g2, 0, none⟩)) v) u fun _ u => (std Try.prog).loadR 24 (.pointer (some ⟨g2, 0, none⟩)) u fun r => RefE W u (.tuple #[r, .int .i64 (e : Nat)]) R := by
  rw [step_run (build0 _)]
  refine st_ring hU hO i hi rfl rfl (.inr hg2) ?_
  intro w6 hU6 hO6 d0 d1
  exact ldr24 d0 d1 ⟨_, e, [], 0, rfl, ringZ_at _, ringZ_fresh _, hU6, .inl ⟨hR, rfl, rfl⟩⟩
theorem ref_tell {W w4 w5 : World} {g2 : Nat} {a b x : Value} {gs : List Fr} {hd : Int} {R : Nat ⊕ (List Fr × Int)} {h : List (Nat × Obj)} (hU : Upd W w5 []) (i : Nat) (hO : Owns w5 h) (hi : h[i]? = some (g2, .cells #[a, b] 24 (0, 0))) (hg2 : W.heap.size ≤ g2) (hr : RingAt w5 x gs hd) (hf : FreshV w4 x) (hw : W.heap.size ≤ w4.heap.size) (h4 : g2 < w4.heap.size) (hR : R = .inr (gs, hd)) :
    (std Try.prog).step (sStore 24 (.pointer (some ⟨g2, 0, none⟩)) x) w5 fun _ u => (std Try.prog).loadR 24 (.pointer (some ⟨g2, 0, none⟩)) u fun r => RefE W u (.tuple #[r, .int .i64 0]) R := by
  have hk := ringK_fresh (ks := [g2]) hr hf (fun k hk => by simp at hk; subst hk; exact h4)
  obtain ⟨A, c, rfl, hm, hrd⟩ := hr
  refine st_ring (Upd.refl w5 [g2]) hO i hi rfl rfl (.inl (by simp)) ?_
  intro w6 hU6 hO6 d0 d1
  exact ldr24 d0 d1 ⟨_, 0, gs, hd, rfl, hk w6 hU6, fun a n c x he => Nat.le_trans hw (hf a n c x he), hU.then_ hU6 fun x hx => .inr (by simp at hx; subst hx; exact hg2), .inr ⟨rfl, hR⟩⟩

theorem refPut_spec (w : World) (v : Value) (fs : List Fr) (hand page : Int) (hr : RingAt w v fs hand) :
    CallsR Try.prog 22 #[v, .int .i64 page] w fun r w' => RefE w w' r (putR fs hand page) := by
  apply flotillaref14_Put_sound
  unfold flotillaref14_Put_x
  have hr' := hr
  obtain ⟨A, c, rfl, hm, hrd⟩ := hr'
  refine st_box (Upd.refl w []) (Owns.nil w) ?_
  intro g w1 hU1 hO1 hg
  refine st_alloc ze24 hU1 hO1 ?_
  intro g2 w2 hU2 hO2 hg2
  have c0 : w2.cell? ⟨g, 0, none⟩ = some (.slice A fs.length c) := cell_at (hO2.at_ 1 rfl)
  have c1 : w2.cell? ⟨g, 1, none⟩ = some (.int .i64 hand) := cell_at (hO2.at_ 1 rfl)
  rw [ld24 c0 c1]
  refine st_call (refMay_spec w2 _ fs hand (hr.mono hU2)) ?_
  clear hU1 hO1 c0 c1
  rintro _ w3 ⟨rfl, hU3⟩
  have hO3 := hO2.ext hU3
  have hU3 := hU2.trans hU3
  have hO3 : Owns w3 [(g2, .cells #[.slice none 0 0, .int .i64 0] 24 (0, 0)), (g, .cells #[.slice A fs.length c, .int .i64 hand] 24 (0, 0))] := hO3
  have c0 : w3.cell? ⟨g, 0, none⟩ = some (.slice A fs.length c) := cell_at (hO3.at_ 1 rfl)
  have c1 : w3.cell? ⟨g, 1, none⟩ = some (.int .i64 hand) := cell_at (hO3.at_ 1 rfl)
  simp (disch := first | assumption | omega) only [PX, BX, LX, add_mk, Nat.reduceAdd, ld24, flotillaref14_Put_k1]
  have bad1 : ¬ May fs hand ∨ page < 0 ∨ 16 ≤ page → putR fs hand page = .inl 1 := fun h => by unfold putR; rw [if_pos h]
  refine ⟨fun hmay => ⟨fun h => ref_err hU3 0 hO3 rfl hg2 (bad1 (.inr (.inl h))), fun hp0 => ⟨fun h => ref_err hU3 0 hO3 rfl hg2 (bad1 (.inr (.inr (by omega)))), fun hp1 => ?_⟩⟩, fun h => ref_err hU3 0 hO3 rfl hg2 (bad1 (.inl h))⟩
  refine st_call (refAt_spec w3 _ fs hand page (hr.mono hU3)) ?_
  clear c0 c1
  rintro _ w4 ⟨rfl, hU4⟩
  have hO4 := hO3.ext hU4
  have hU4 := hU3.trans hU4
  simp (disch := first | assumption | omega) only [PX, BX]
  have hputR : putR fs hand page = if 0 ≤ atR fs hand page then .inl 9 else if atI fs (-1) < 0 then .inl 15 else .inr (fs.set (atI fs (-1)).toNat ⟨page, true, 0⟩, hand) := by
    unfold putR; rw [if_neg (by rintro (h | h | h); exact h hmay; omega; omega)]
  refine ⟨fun h => ref_err hU4 0 hO4 rfl hg2 (by rw [hputR, if_pos h]), fun hno => ?_⟩
  rw [if_neg hno] at hputR
  have c0 : w4.cell? ⟨g, 0, none⟩ = some (.slice A fs.length c) := cell_at (hO4.at_ 1 rfl)
  have c1 : w4.cell? ⟨g, 1, none⟩ = some (.int .i64 hand) := cell_at (hO4.at_ 1 rfl)
  refine st_loop (fun vs w' => ∃ i : Nat, i ≤ fs.length ∧ vs.getD 1 undef = .int .i64 i ∧ w' = w4 ∧ ∀ (j : Nat) (hj : j < fs.length), j < i → fs[j].page ≠ -1) (fun vs _ => fs.length - (intOf (vs.getD 1 undef)).toNat) ⟨0, by omega, rfl, rfl, fun j _ hj => by omega⟩ ?_
  rintro dv vs w5 - ⟨i, hi, e3, rfl, hall⟩
  simp (disch := first | assumption | omega) only [e3, PX, BX, LX]
  have hn : fs.length ≤ 16 := hmay.2.1
  refine ⟨fun hlt => ?_, fun hge => ?_⟩
  · have hlt' : i < fs.length := by omega
    obtain ⟨a, rfl, f0, _, _⟩ := fr_at hrd hlt'
    have f0 := f0 w5 hU4
    simp (disch := first | assumption | omega) only [PX, BX, LX, idx22, w64, ld24]
    refine ⟨fun he => ?_, fun he => ⟨⟨i + 1, by omega, rfl, trivial, fun j hj hji => ?_⟩, ?_⟩⟩
    · rw [atI_at hlt' (fun j hj => hall j (by omega) hj) he, if_neg (by omega), show ((i : Nat) : Int).toNat = i by omega] at hputR
      rw [step_run (show (sBuild 31 [(0, .int .i64 page), (1, .bool true)]).run Try.prog w5 = .ok (.value (.agg (frV ⟨page, true, 0⟩).toArray)) w5 by kernel_rfl)]
      refine st_call (with_spec w5 _ fs hand i ⟨page, true, 0⟩ (hr.mono hU4) (by omega)) ?_
      rintro x w6 ⟨hr6, hf6, hU6⟩
      refine ref_tell (hU4.trans hU6) 0 (hO4.ext hU6) rfl hg2 hr6 hf6 hU4.size (hO4.lt (List.mem_cons_self ..)) ?_
      rw [hputR]; unfold withL; rw [if_pos (by omega)]; rfl
    · by_cases h : j < i
      · exact hall j hj h
      · obtain rfl : j = i := by omega
        exact he
    · simp only [List.getD_cons_succ, List.getD_cons_zero, intOf]; omega
  · obtain rfl : i = fs.length := by omega
    unfold flotillaref14_Put_k2
    refine ref_err hU4 0 hO4 rfl hg2 ?_
    rw [hputR, atI_no fun j hj => hall j hj hj, if_pos (by omega)]

end Go.Proofs.Ytnghnolpohahpaa
