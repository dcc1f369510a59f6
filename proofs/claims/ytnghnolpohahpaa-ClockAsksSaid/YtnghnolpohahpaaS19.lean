/- The document's calls, II. -/
import Derived.Test.YtnghnolpohahpaaS18
namespace Go.Proofs.Ytnghnolpohahpaa
open Go Xf Go.RowKit
set_option linter.unusedVariables false
set_option linter.unusedSimpArgs false
set_option maxRecDepth 100000

theorem refDrop_spec (w : World) (v : Value) (fs : List Fr) (hand page : Int) (hr : RingAt w v fs hand) :
    CallsR Try.prog 23 #[v, .int .i64 page] w fun r w' => RefE w w' r (changeR fs hand page dropF) := by
  apply flotillaref14_Drop_sound
  unfold flotillaref14_Drop_x
  have hr' := hr
  obtain ⟨A, c, rfl, hm, hrd⟩ := hr'
  refine st_box (Upd.refl w []) (Owns.nil w) ?_
  intro g w1 hU1 hO1 hg
  refine st_alloc ze24 hU1 hO1 ?_
  intro g2 w2 hU2 hO2 hg2
  have c0 : w2.cell? ⟨g, 0, none⟩ = some (.slice A fs.length c) := cell_at (hO2.at_ 1 rfl)
  have c1 : w2.cell? ⟨g, 1, none⟩ = some (.int .i64 hand) := cell_at (hO2.at_ 1 rfl)
  rw [ld24 c0 c1]
  refine st_call (refMay_spec w2 _ fs hand (hr.mono hU2)) ?_
  clear hU1 hO1 c0 c1
  rintro _ w3 ⟨rfl, hU3⟩
  have hO3 := hO2.ext hU3
  have hU3 := hU2.trans hU3
  have hO3 : Owns w3 [(g2, .cells #[.slice none 0 0, .int .i64 0] 24 (0, 0)), (g, .cells #[.slice A fs.length c, .int .i64 hand] 24 (0, 0))] := hO3
  have c0 : w3.cell? ⟨g, 0, none⟩ = some (.slice A fs.length c) := cell_at (hO3.at_ 1 rfl)
  have c1 : w3.cell? ⟨g, 1, none⟩ = some (.int .i64 hand) := cell_at (hO3.at_ 1 rfl)
  simp (disch := first | assumption | omega) only [PX, BX, LX, add_mk, Nat.reduceAdd, ld24]
  refine ⟨fun hmay => ?_, fun h => ref_err hU3 0 hO3 rfl hg2 (by unfold changeR; rw [if_neg h])⟩
  refine st_call (refAt_spec w3 _ fs hand page (hr.mono hU3)) ?_
  clear c0 c1
  rintro _ w4 ⟨rfl, hU4⟩
  have hO4 := hO3.ext hU4
  have hU4 := hU3.trans hU4
  have c0 : w4.cell? ⟨g, 0, none⟩ = some (.slice A fs.length c) := cell_at (hO4.at_ 1 rfl)
  have c1 : w4.cell? ⟨g, 1, none⟩ = some (.int .i64 hand) := cell_at (hO4.at_ 1 rfl)
  simp (disch := first | assumption | omega) only [PX, BX, LX, ld24]
  refine ⟨fun h => ref_err hU4 0 hO4 rfl hg2 (by unfold changeR; rw [if_pos hmay, if_pos h]), fun hno => ?_⟩
  obtain ⟨i, hi, hat, hpg, hp0, _⟩ := atR_pos hno
  have hR := fun f => changeR_at (f := f) hmay hi hat
  obtain ⟨a, rfl, f0, f1, f2⟩ := fr_at hrd hi
  have f2 := f2 w4 hU4
  have hn : fs.length ≤ 16 := hmay.2.1
  rw [hat]
  simp (disch := first | assumption | omega) only [PX, BX, LX, idx22, add_add']
  refine ⟨fun hp => ref_err hU4 0 hO4 rfl hg2 (by rw [hR]; unfold dropF; rw [if_pos hp]), fun hp => ?_⟩
  rw [ld24 c0 c1, step_run (show (sBuild 31 [(0, .int .i64 (-1))]).run Try.prog w4 = .ok (.value (.agg (frV ⟨-1, false, 0⟩).toArray)) w4 by kernel_rfl)]
  refine st_call (with_spec w4 _ fs hand i ⟨-1, false, 0⟩ (hr.mono hU4) (by omega)) ?_
  rintro x w6 ⟨hr6, hf6, hU6⟩
  refine ref_tell (hU4.trans hU6) 0 (hO4.ext hU6) rfl hg2 hr6 hf6 hU4.size (hO4.lt (List.mem_cons_self ..)) ?_
  rw [hR]; unfold dropF withL; rw [if_neg hp, if_pos (by omega)]; rfl

def pinT (n : Int) (t : Bool) (f : Fr) : Nat ⊕ Fr := if 1048576 < n ∨ n < -1048576 ∨ f.pins + n < 0 ∨ 1048576 < f.pins + n then .inl 10 else .inr ⟨f.page, f.used || t, f.pins + n⟩
theorem changeR_congr {fs : List Fr} {hand page : Int} {f g : Fr → Nat ⊕ Fr} (h : ∀ x, okF x → f x = g x) : changeR fs hand page f = changeR fs hand page g := by
  by_cases hm : May fs hand
  · by_cases ha : atR fs hand page < 0
    · unfold changeR; rw [if_pos hm, if_pos ha, if_pos hm, if_pos ha]
    · obtain ⟨i, hi, h1, _⟩ := atR_pos ha
      rw [changeR_at hm hi h1, changeR_at hm hi h1, h _ (hm.2.2.2.2 i hi).1]
  · unfold changeR; rw [if_neg hm, if_neg hm]
theorem pin_same (fs : List Fr) (hand page n : Int) : changeR fs hand page (pinT n false) = changeR fs hand page (pinF n) := changeR_congr fun x ho => by
  obtain ⟨o1, o2, o3, o4, o5⟩ := ho
  unfold pinT pinF
  by_cases hc : n < -x.pins ∨ 1048576 - x.pins < n
  · rw [if_pos hc, if_pos (by omega)]
  · rw [if_neg hc, if_neg (by omega), Bool.or_false]
theorem touch_same (fs : List Fr) (hand page : Int) : changeR fs hand page (pinT 0 true) = changeR fs hand page touchF := changeR_congr fun x ho => by
  obtain ⟨o1, o2, o3, o4, o5⟩ := ho
  unfold pinT touchF
  rw [if_neg (by omega), Bool.or_true, Int.add_zero]

theorem refPin_spec (w : World) (v : Value) (fs : List Fr) (hand page n : Int) (t : Bool) (hr : RingAt w v fs hand) :
    CallsR Try.prog 24 #[v, .int .i64 page, .int .i64 n, .bool t] w fun r w' => RefE w w' r (changeR fs hand page (pinT n t)) := by
  apply flotillaref14_Pin_sound
  unfold flotillaref14_Pin_x
  have hr' := hr
  obtain ⟨A, c, rfl, hm, hrd⟩ := hr'
  refine st_box (Upd.refl w []) (Owns.nil w) ?_
  intro g w1 hU1 hO1 hg
  refine st_alloc ze24 hU1 hO1 ?_
  intro g2 w2 hU2 hO2 hg2
  have c0 : w2.cell? ⟨g, 0, none⟩ = some (.slice A fs.length c) := cell_at (hO2.at_ 1 rfl)
  have c1 : w2.cell? ⟨g, 1, none⟩ = some (.int .i64 hand) := cell_at (hO2.at_ 1 rfl)
  rw [ld24 c0 c1]
  refine st_call (refMay_spec w2 _ fs hand (hr.mono hU2)) ?_
  clear hU1 hO1 c0 c1
  rintro _ w3 ⟨rfl, hU3⟩
  have hO3 := hO2.ext hU3
  have hU3 := hU2.trans hU3
  have hO3 : Owns w3 [(g2, .cells #[.slice none 0 0, .int .i64 0] 24 (0, 0)), (g, .cells #[.slice A fs.length c, .int .i64 hand] 24 (0, 0))] := hO3
  have c0 : w3.cell? ⟨g, 0, none⟩ = some (.slice A fs.length c) := cell_at (hO3.at_ 1 rfl)
  have c1 : w3.cell? ⟨g, 1, none⟩ = some (.int .i64 hand) := cell_at (hO3.at_ 1 rfl)
  simp (disch := first | assumption | omega) only [PX, BX, LX, add_mk, Nat.reduceAdd, ld24]
  refine ⟨fun hmay => ?_, fun h => ref_err hU3 0 hO3 rfl hg2 (by unfold changeR; rw [if_neg h])⟩
  refine st_call (refAt_spec w3 _ fs hand page (hr.mono hU3)) ?_
  clear c0 c1
  rintro _ w4 ⟨rfl, hU4⟩
  have hO4 := hO3.ext hU4
  have hU4 := hU3.trans hU4
  have c0 : w4.cell? ⟨g, 0, none⟩ = some (.slice A fs.length c) := cell_at (hO4.at_ 1 rfl)
  simp (disch := first | assumption | omega) only [PX, BX, LX]
  refine ⟨fun h => ref_err hU4 0 hO4 rfl hg2 (by unfold changeR; rw [if_pos hmay, if_pos h]), fun hno => ?_⟩
  obtain ⟨i, hi, hat, hpg, hp0, _⟩ := atR_pos hno
  have hR := fun f => changeR_at (f := f) hmay hi hat
  obtain ⟨a, rfl, f0, f1, f2⟩ := fr_at hrd hi
  have hn : fs.length ≤ 16 := hmay.2.1
  rw [hat, idx22 hi, ldA31 (f0 w4 hU4) (by rw [add_add']; exact f1 w4 hU4) (by rw [add_add']; exact f2 w4 hU4)]
  refine st_newframe hU4 hO4 fun g11 w5 hU5 hO5 hg11 => ?_
  have hU45 : g2 < w4.heap.size := hO4.lt (List.mem_cons_self ..)
  have k2 : w5.cell? ⟨g11, 2, none⟩ = some (.int .i64 fs[i].pins) := cell_at (hO5.at_ 0 rfl)
  obtain ⟨⟨o1, o2, o3, o4, o5⟩, _⟩ := hmay.2.2.2.2 i hi
  simp (disch := first | assumption | omega) only [PX, BX, LX, add_mk, Nat.reduceAdd, flotillaref14_Pin_k1]
  have hR10 : 1048576 < n ∨ n < -1048576 ∨ fs[i].pins + n < 0 ∨ 1048576 < fs[i].pins + n → changeR fs hand page (pinT n t) = .inl 10 := fun h => by rw [hR]; unfold pinT; rw [if_pos h]
  refine ⟨fun h => ref_err hU5 1 hO5 rfl hg2 (hR10 (.inl h)), fun h1 => ⟨fun h => ref_err hU5 1 hO5 rfl hg2 (hR10 (.inr (.inl h))), fun h2 => ?_⟩⟩
  simp (disch := first | assumption | omega) only [w64]
  refine ⟨fun h => ref_err hU5 1 hO5 rfl hg2 (hR10 (.inr (.inr (.inl h)))), fun h3 => ⟨fun h => ref_err hU5 1 hO5 rfl hg2 (hR10 (.inr (.inr (.inr h)))), fun h4 => ?_⟩⟩
  have hRok : changeR fs hand page (pinT n t) = .inr (fs.set i ⟨fs[i].page, fs[i].used || t, fs[i].pins + n⟩, hand) := by rw [hR]; unfold pinT; rw [if_neg (by omega)]
  refine st_storeB sz3 rfl hU5 hO5 0 rfl (by simp) (.inr (Nat.zero_le _)) (.inr hg11) ?_
  intro w6 hU6 hO6
  have fin : ∀ (u : Bool) w7, u = (fs[i].used || t) → Upd w w7 [] → Owns w7 [(g11, .cells #[.int .i64 fs[i].page, .bool u, .int .i64 (fs[i].pins + n)] 31 (0, 0)), (g2, .cells #[.slice none 0 0, .int .i64 0] 24 (0, 0)), (g, .cells #[.slice (some a) fs.length c, .int .i64 hand] 24 (0, 0))] →
      flotillaref14_Pin_k2 (std Try.prog) (.pointer (some ⟨g, 0, none⟩)) (.pointer (some ⟨g2, 0, none⟩)) (.int .i64 (i : Nat)) (.pointer (some ⟨g11, 0, none⟩)) w7 fun r w' => RefE w w' r (changeR fs hand page (pinT n t)) := by
    intro u w7 hu hU7 hO7
    unfold flotillaref14_Pin_k2
    have c0 : w7.cell? ⟨g, 0, none⟩ = some (.slice (some a) fs.length c) := cell_at (hO7.at_ 2 rfl)
    have c1 : w7.cell? ⟨g, 1, none⟩ = some (.int .i64 hand) := cell_at (hO7.at_ 2 rfl)
    rw [ld24 c0 c1, ld31 (f := ⟨fs[i].page, u, fs[i].pins + n⟩) (cell_at (hO7.at_ 0 rfl)) (cell_at (hO7.at_ 0 rfl)) (cell_at (hO7.at_ 0 rfl))]
    refine st_call (with_spec w7 _ fs hand i ⟨fs[i].page, u, fs[i].pins + n⟩ (hr.mono hU7) (by omega)) ?_
    rintro x w8 ⟨hr8, hf8, hU8⟩
    refine ref_tell (hU7.trans hU8) 1 (hO7.ext hU8) rfl hg2 hr8 hf8 hU7.size (hO7.lt (.tail _ (List.mem_cons_self ..))) ?_
    rw [hRok, hu]; unfold withL; rw [if_pos (by omega)]; rfl
  rw [bool_var]
  refine ⟨fun ht => ?_, fun ht => fin fs[i].used w6 (by rw [ht, Bool.or_false]) hU6 hO6⟩
  refine st_storeB sz4 rfl hU6 hO6 0 rfl (by simp) (.inr (Nat.zero_le _)) (.inr hg11) ?_
  intro w7 hU7 hO7
  exact fin true w7 (by rw [ht, Bool.or_true]) hU7 hO7

theorem sldA31 {S : World → Prop} {a : Addr} {f : Fr} {k : Value → Prop} (hne : ∃ w, S w) (h0 : ∀ w, S w → w.cell? a = some (.int .i64 f.page)) (h1 : ∀ w, S w → w.cell? (a.add 1) = some (.bool f.used)) (h2 : ∀ w, S w → w.cell? (a.add 2) = some (.int .i64 f.pins)) :
    (std Try.prog).stepS S (sLoad 31 (.pointer (some a))) k = k (.agg (frV f).toArray) := by
  refine stepS_run hne fun w hw => run_sLoad (run_loadVarN (cs := frV f) ag31 (by rw [sz31]; rfl) fun j v hj => ?_)
  match j, hj with
  | 0, hj => simp [frV] at hj; subst hj; exact h0 w hw
  | 1, hj => simp [frV] at hj; subst hj; exact h1 w hw
  | 2, hj => simp [frV] at hj; subst hj; exact h2 w hw

theorem refSame_spec (w : World) (v v' : Value) (fs : List Fr) (hand : Int) (hr : RingAt w v fs hand) (hr' : RingAt w v' fs hand) :
    CallsR Try.prog 27 #[v, v'] w fun r w' => r = .bool true ∧ Upd w w' [] := by
  apply flotillaref14_Same_sound
  unfold flotillaref14_Same_x
  obtain ⟨A, c, rfl, hm, hrd⟩ := hr
  obtain ⟨A', c', rfl, _, hrd'⟩ := hr'
  refine st_box (Upd.refl w []) (Owns.nil w) ?_
  intro g2 w1 hU1 hO1 hg2
  refine st_box hU1 hO1 ?_
  intro g3 w2 hU2 hO2 hg3
  let hb := [(g3, Obj.cells #[.slice A' fs.length c', .int .i64 hand] 24 (0, 0)), (g2, Obj.cells #[.slice A fs.length c, .int .i64 hand] 24 (0, 0))]
  have hS2 : SU w hb w2 := ⟨hU2, hO2⟩
  have c0 : w2.cell? ⟨g2, 0, none⟩ = some (.slice A fs.length c) := cell_at (hO2.at_ 1 rfl)
  have c1 : w2.cell? ⟨g2, 1, none⟩ = some (.int .i64 hand) := cell_at (hO2.at_ 1 rfl)
  have d0 : w2.cell? ⟨g3, 0, none⟩ = some (.slice A' fs.length c') := cell_at (hO2.at_ 0 rfl)
  have d1 : w2.cell? ⟨g3, 1, none⟩ = some (.int .i64 hand) := cell_at (hO2.at_ 0 rfl)
  simp (disch := first | assumption | omega) only [PX, BX, LX, add_mk, Nat.reduceAdd]
  refine ⟨fun h => absurd rfl h, fun _ => ⟨fun h => absurd rfl h, fun _ => ?_⟩⟩
  refine st_loop (fun vs w' => ∃ i : Nat, i ≤ fs.length ∧ vs.getD 1 undef = .int .i64 i ∧ SU w hb w') (fun vs _ => fs.length - (intOf (vs.getD 1 undef)).toNat) ⟨0, by omega, rfl, hS2⟩ ?_
  rintro dv vs w3 - ⟨i, hi, e1, hS3⟩
  have c0 : w3.cell? ⟨g2, 0, none⟩ = some (.slice A fs.length c) := cell_at (hS3.2.at_ 1 rfl)
  simp (disch := first | assumption | omega) only [PX, BX, LX, e1]
  refine ⟨fun hlt => ?_, fun hge => ?_⟩
  · have hlt' : i < fs.length := by omega
    have h63 : fs.length ≤ 9223372036854775807 := by unfold maxLen at hm; omega
    obtain ⟨a, rfl, p0, p1, p2⟩ := fr_at hrd hlt'
    obtain ⟨a', rfl, q0, q1, q2⟩ := fr_at hrd' hlt'
    have hS4 : SU w hb w3.drew := SU.drew hS3.1 hS3.2
    have hne : ∃ w', SU w hb w' := ⟨_, hS4⟩
    have c0 : ∀ w', SU w hb w' → w'.cell? ⟨g2, 0, none⟩ = some (.slice (some a) fs.length c) := fun w' h => cell_at (h.2.at_ 1 rfl)
    have d0 : ∀ w', SU w hb w' → w'.cell? ⟨g3, 0, none⟩ = some (.slice (some a') fs.length c') := fun w' h => cell_at (h.2.at_ 0 rfl)
    refine st_draw (SU w hb) hS4 ?_
    have l1 : ∀ {k : Value → Prop}, (std Try.prog).stepS (SU w hb) (sLoad 31 (.pointer (some (a.add (i * 3))))) k = k (.agg (frV fs[i]).toArray) := fun {k} => sldA31 hne (fun w' h => p0 w' h.1) (fun w' h => by rw [add_add']; exact p1 w' h.1) (fun w' h => by rw [add_add']; exact p2 w' h.1)
    have l2 : ∀ {k : Value → Prop}, (std Try.prog).stepS (SU w hb) (sLoad 31 (.pointer (some (a'.add (i * 3))))) k = k (.agg (frV fs[i]).toArray) := fun {k} => sldA31 hne (fun w' h => q0 w' h.1) (fun w' h => by rw [add_add']; exact q1 w' h.1) (fun w' h => by rw [add_add']; exact q2 w' h.1)
    simp (disch := first | assumption | omega) only [SX, SLX, sidx22, l1, l2]
    rw [stepS_run hne fun w' _ => (frame_eq fs[i] fs[i] w').2 _ _]
    simp (disch := first | assumption | omega) only [PX, BX, decide_true, Bool.not_true, e1, w64]
    refine ⟨⟨i + 1, by omega, rfl, hS4⟩, ?_⟩
    simp only [List.getD_cons_succ, List.getD_cons_zero, intOf]; omega
  · unfold flotillaref14_Same_k1
    exact ⟨rfl, hS3.1⟩

end Go.Proofs.Ytnghnolpohahpaa
