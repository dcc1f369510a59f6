/- The frame that is given up. -/
import Derived.Test.YtnghnolpohahpaaS5
namespace Go.Proofs.Ytnghnolpohahpaa
open Go Xf Go.RowKit
set_option linter.unusedVariables false
set_option linter.unusedSimpArgs false
set_option maxRecDepth 100000

/-- one look: what the hand stands at is told, or the hand goes on -/
def lookR (fs : List Fr) (h : Nat) : Bool × List Fr := match fs[h]? with
  | none => (true, fs)
  | some f => if f.page = -1 then (true, fs) else if 0 < f.pins then (false, fs) else if f.used then (false, fs.set h ⟨f.page, false, f.pins⟩) else (true, fs)
/-- at most k looks -/
def looksR : Nat → List Fr → Nat → Option (Nat × List Fr × Nat)
  | 0, _, _ => none
  | k + 1, fs, h => if (lookR fs h).1 then some (h, (lookR fs h).2, (h + 1) % fs.length) else looksR k (lookR fs h).2 ((h + 1) % fs.length)
theorem lookR_len (fs : List Fr) (h : Nat) : (lookR fs h).2.length = fs.length := by
  unfold lookR; split
  · rfl
  · split
    · rfl
    · split
      · rfl
      · split
        · simp
        · rfl
/-- the state behind k looks, none of which told -/
def goneR : Nat → List Fr → Nat → List Fr × Nat
  | 0, fs, h => (fs, h)
  | k + 1, fs, h => goneR k (lookR fs h).2 ((h + 1) % fs.length)

/-- what Next answers -/
noncomputable def nextR (fs : List Fr) (hand : Int) : Nat ⊕ (Nat × List Fr × Nat) :=
  if May fs hand then match looksR (2 * fs.length + 1) fs hand.toNat with
    | some x => .inr x
    | none => .inl 15
  else .inl 1

def NextE (w w' : World) (r : Value) : Nat ⊕ (Nat × List Fr × Nat) → Prop
  | .inl e => r = .tuple #[.int .i64 0, ringZ, .int .i64 (e : Nat)] ∧ Upd w w' []
  | .inr p => ∃ g x, NewRing w w' x g p.2.1 p.2.2 ∧ r = .tuple #[.int .i64 (p.1 : Nat), x, .int .i64 0]

theorem Next_spec (w : World) (v : Value) (fs : List Fr) (hand : Int) (hr : RingAt w v fs hand) :
    CallsR Try.prog 16 #[v] w fun r w' => NextE w w' r (nextR fs hand) := by
  apply clock_Next_sound
  unfold clock_Next_x
  have hr' := hr
  obtain ⟨A, c, rfl, hm, hrd⟩ := hr'
  refine st_box (Upd.refl w []) (Owns.nil w) ?_
  intro g w1 hU1 hO1 hg
  refine st_alloc ze24 hU1 hO1 ?_
  intro g2 w2 hU2 hO2 hg2
  have c0 : w2.cell? ⟨g, 0, none⟩ = some (.slice A fs.length c) := cell_at (hO2.at_ 1 rfl)
  have c1 : w2.cell? ⟨g, 1, none⟩ = some (.int .i64 hand) := cell_at (hO2.at_ 1 rfl)
  simp (disch := first | assumption | omega) only [PX, BX, LX, add_mk, Nat.reduceAdd, ld24]
  refine st_call (Check_spec w2 _ fs hand (hr.mono hU2)) ?_
  clear hU1 hO1 c0 c1
  rintro _ w3 ⟨rfl, hU3⟩
  have hO3 := hO2.ext hU3
  have hUw3 := hU2.trans hU3
  by_cases hmay : May fs hand
  · rw [if_pos hmay]
    have hmay' := hmay
    obtain ⟨m1, m2, m3, m4, m5⟩ := hmay'
    have c0 : w3.cell? ⟨g, 0, none⟩ = some (.slice A fs.length c) := cell_at (hO3.at_ 1 rfl)
    have c1 : w3.cell? ⟨g, 1, none⟩ = some (.int .i64 hand) := cell_at (hO3.at_ 1 rfl)
    simp (disch := first | assumption | omega) only [PX, BX, LX, add_mk, Nat.reduceAdd, ld24]
    refine ⟨fun h => absurd rfl h, fun _ => ?_⟩
    refine st_call (twin_spec w3 _ fs hand (by omega) (hr.mono hUw3)) ?_
    clear c0 c1
    rintro _ w4 ⟨g3, rfl, hmx, hOg, hU4, hg3⟩
    have hg3' : w.heap.size ≤ g3 := Nat.le_trans hUw3.size hg3
    refine st_alloc ze24 (hUw3.trans hU4) (own3 hO3 hOg hU4 hg3) ?_
    intro g5 w5 hU5 hO5 hg5
    refine st_ring hU5 hO5 0 rfl rfl rfl (.inr hg5) ?_
    intro w6 hU6 hO6 d0 d1
    simp (disch := first | assumption | omega) only [PX, BX, LX, add_mk, Nat.reduceAdd, w64]
    obtain ⟨h0, rfl⟩ : ∃ h0 : Nat, hand = h0 := ⟨hand.toNat, by omega⟩
    refine st_loop (fun vs w' => ∃ (i : Nat) (gs : List Fr) (hd : Nat), i ≤ 2 * fs.length + 1 ∧ vs.getD 3 undef = .int .i64 i ∧ vs.getD 2 undef = .int .i64 (-1) ∧ gs.length = fs.length ∧ hd < fs.length ∧ looksR (2 * fs.length + 1) fs h0 = looksR (2 * fs.length + 1 - i) gs hd
        ∧ Upd w w' [] ∧ Owns w' [(g5, .cells #[.slice (some ⟨g3, 0, none⟩) fs.length fs.length, .int .i64 hd] 24 (0, 0)), (g3, .cells (framesV gs).toArray 31 (0, 0)), (g2, .cells #[.slice none 0 0, .int .i64 0] 24 (0, 0))])
      (fun vs _ => 2 * fs.length + 1 - (intOf (vs.getD 3 undef)).toNat) ⟨0, fs, h0, by omega, rfl, rfl, rfl, by omega, rfl, hU6, hO6⟩ ?_
    rintro dv vs w7 - ⟨i, gs, hd, hi, e3, e2, hgl, hhd, heq, hU7, hO7⟩
    simp (disch := omega) only [e2, e3, PX, BX]
    refine ⟨fun hlt => ?_, fun hge => ?_⟩
    · have hn0 : fs.length ≠ 0 := by omega
      have c0 : w7.cell? ⟨g5, 0, none⟩ = some (.slice (some ⟨g3, 0, none⟩) fs.length fs.length) := cell_at (hO7.at_ 0 rfl)
      have c1 : w7.cell? ⟨g5, 1, none⟩ = some (.int .i64 hd) := cell_at (hO7.at_ 0 rfl)
      simp (disch := first | assumption | omega) only [PX, BX, LX, add_mk, Nat.reduceAdd, w64]
      clear c0 c1
      rw [step_run (run_idxS u22 sz31 (by omega) (by omega)), add_mk, show 0 + ((hd : Nat) : Int).toNat * 3 = hd * 3 by omega]
      simp (disch := first | assumption | omega) only [PX, BX, LX, add_mk, Nat.reduceAdd, w64]
      have hrem : Int.tmod ((hd : Int) + 1) (fs.length : Int) = (((hd + 1) % fs.length : Nat) : Int) := tmod_nat (hd + 1) fs.length
      rw [hrem]
      have hd' : (hd + 1) % fs.length < fs.length := Nat.mod_lt _ (by omega)
      refine st_storeB sz3 rfl hU7 hO7 0 rfl (by simp) (.inr (Nat.zero_le _)) (.inr hg5) ?_
      intro w8 hU8 hO8
      have hO8 : Owns w8 [(g5, .cells #[.slice (some ⟨g3, 0, none⟩) fs.length fs.length, .int .i64 (((hd + 1) % fs.length : Nat) : Int)] 24 (0, 0)), (g3, .cells (framesV gs).toArray 31 (0, 0)), (g2, .cells #[.slice none 0 0, .int .i64 0] 24 (0, 0))] := hO8
      have hgd : hd < gs.length := by omega
      have hat : ∀ k u, k < 3 → (frV gs[hd])[k]? = some u → w8.cell? ⟨g3, hd * 3 + k, none⟩ = some u := fun k u hk hu => by
        rw [cell_at (hO8.at_ 1 rfl), List.getElem?_toArray, framesV_at hgd k hk, hu]
      have f0 : w8.cell? ⟨g3, hd * 3, none⟩ = some (.int .i64 gs[hd].page) := hat 0 _ (by omega) rfl
      have f1 : w8.cell? ⟨g3, hd * 3 + 1, none⟩ = some (.bool gs[hd].used) := hat 1 _ (by omega) rfl
      have f2 : w8.cell? ⟨g3, hd * 3 + 2, none⟩ = some (.int .i64 gs[hd].pins) := hat 2 _ (by omega) rfl
      obtain ⟨k, hk⟩ : ∃ k, 2 * fs.length + 1 - i = k + 1 := ⟨2 * fs.length - i, by omega⟩
      have hlook : lookR gs hd = if gs[hd].page = -1 then (true, gs) else if 0 < gs[hd].pins then (false, gs) else if gs[hd].used then (false, gs.set hd ⟨gs[hd].page, false, gs[hd].pins⟩) else (true, gs) := by
        unfold lookR; rw [List.getElem?_eq_getElem hgd]
      rw [hk] at heq
      have told : lookR gs hd = (true, gs) → clock_Next_k1 (std Try.prog) (.pointer (some ⟨g2, 0, none⟩)) (.pointer (some ⟨g5, 0, none⟩)) (.int .i64 hd) w8 fun r w' => NextE w w' r (nextR fs h0) := by
        intro hl
        have hres : looksR (2 * fs.length + 1) fs h0 = some (hd, gs, (hd + 1) % fs.length) := by
          rw [heq]; unfold looksR; rw [hl, hgl]; rfl
        unfold clock_Next_k1
        simp (disch := omega) only [PX, BX]
        refine ⟨fun h => absurd h (by omega), fun _ => ?_⟩
        let S : World → Prop := fun w' => Upd w w' [] ∧ Owns w' [(g5, .cells #[.slice (some ⟨g3, 0, none⟩) fs.length fs.length, .int .i64 (((hd + 1) % fs.length : Nat) : Int)] 24 (0, 0))]
        have hS : S w8.drew := ⟨hU8.trans (Upd.drew w8 []), (hO8.ext (Upd.drew w8 [])).sub (by simp)⟩
        refine st_draw S hS ?_
        have l24 : ∀ w', S w' → (sLoad 24 (.pointer (some ⟨g5, 0, none⟩))).run Try.prog w' = .ok (.value (.agg #[.slice (some ⟨g3, 0, none⟩) fs.length fs.length, .int .i64 (((hd + 1) % fs.length : Nat) : Int)])) w' := fun w' hw =>
          run_sLoad (run_loadVarN (cs := [.slice (some ⟨g3, 0, none⟩) fs.length fs.length, .int .i64 (((hd + 1) % fs.length : Nat) : Int)]) ag24 (by rw [sz24]; rfl) (cells_read (hw.2.at_ 0 rfl)))
        rw [stepS_run ⟨_, hS⟩ l24]
        refine st_ring (hU8.trans (Upd.drew w8 [])) (hO8.ext (Upd.drew w8 [])) 2 rfl rfl rfl (.inr hg2) ?_
        intro w9 hU9 hO9 d0 d1
        refine st_keepT (fun _ => True) trivial ?_
        refine ldr24 d0 d1 ?_
        unfold nextR
        rw [if_pos hmay, show ((h0 : Nat) : Int).toNat = h0 by omega, hres]
        exact ⟨g3, _, ⟨by rw [hgl], by rw [hgl]; exact hmx, hO9.sub (by simp), hU9, hg3'⟩, rfl⟩
      have goOn : ∀ (gs' : List Fr) (u v : Value) (w9 : World), lookR gs hd = (false, gs') → Upd w w9 [] → Owns w9 [(g5, .cells #[.slice (some ⟨g3, 0, none⟩) fs.length fs.length, .int .i64 (((hd + 1) % fs.length : Nat) : Int)] 24 (0, 0)), (g3, .cells (framesV gs').toArray 31 (0, 0)), (g2, .cells #[.slice none 0 0, .int .i64 0] 24 (0, 0))] →
          clock_Next_k2 (std Try.prog) vs (fun vs' w' => (∃ (i : Nat) (gs : List Fr) (hd : Nat), i ≤ 2 * fs.length + 1 ∧ vs'.getD 3 undef = .int .i64 i ∧ vs'.getD 2 undef = .int .i64 (-1) ∧ gs.length = fs.length ∧ hd < fs.length ∧ looksR (2 * fs.length + 1) fs h0 = looksR (2 * fs.length + 1 - i) gs hd
        ∧ Upd w w' [] ∧ Owns w' [(g5, .cells #[.slice (some ⟨g3, 0, none⟩) fs.length fs.length, .int .i64 hd] 24 (0, 0)), (g3, .cells (framesV gs).toArray 31 (0, 0)), (g2, .cells #[.slice none 0 0, .int .i64 0] 24 (0, 0))]) ∧ 2 * fs.length + 1 - (intOf (vs'.getD 3 undef)).toNat < 2 * fs.length + 1 - (intOf (Value.int IntKind.i64 (i : Int))).toNat)
            u v (.int .i64 (-1)) w9 fun r w' => NextE w w' r (nextR fs h0) := by
        intro gs' u v w9 hl hU9 hO9
        unfold clock_Next_k2
        simp (disch := omega) only [e3, PX, w64]
        refine ⟨⟨i + 1, gs', (hd + 1) % fs.length, by omega, rfl, rfl, by have := lookR_len gs hd; rw [hl] at this; rw [← hgl]; exact this, hd', ?_, hU9, hO9⟩, ?_⟩
        · rw [heq, show 2 * fs.length + 1 - (i + 1) = k by omega]
          show (if (lookR gs hd).1 then _ else looksR k (lookR gs hd).2 ((hd + 1) % gs.length)) = _
          rw [hl, hgl]; rfl
        · simp only [List.getD_cons_succ, List.getD_cons_zero, intOf]; omega
      simp (disch := first | assumption | omega) only [PX, BX, LX, add_mk, Nat.reduceAdd]
      refine ⟨fun hp => told (by rw [hlook, if_pos hp]), fun hp => ⟨fun hq => goOn gs _ _ w8 (by rw [hlook, if_neg hp, if_pos hq]) hU8 hO8, fun hq => ?_⟩⟩
      rw [bool_var]
      refine ⟨fun hu => ?_, fun hu => told (by rw [hlook, if_neg hp, if_neg hq, hu]; rfl)⟩
      refine st_storeB sz4 rfl hU8 hO8 1 rfl (by simp [framesV_len]; omega) (.inr (Nat.zero_le _)) (.inr hg3') ?_
      intro w9 hU9 hO9
      have e : (framesV gs).toArray.setIfInBounds (hd * 3 + 1) (.bool false) = (framesV (gs.set hd ⟨gs[hd].page, false, gs[hd].pins⟩)).toArray := by
        rw [List.setIfInBounds_toArray, framesV_set1 gs hd 1 hgd (by omega) _ ⟨gs[hd].page, false, gs[hd].pins⟩ rfl]
      rw [e] at hO9
      exact goOn _ _ _ w9 (by rw [hlook, if_neg hp, if_neg hq, hu]; rfl) hU9 hO9
    · obtain rfl : i = 2 * fs.length + 1 := by omega
      unfold clock_Next_k1
      simp (disch := omega) only [PX, BX]
      refine ⟨fun _ => ?_, fun h => absurd (by decide) h⟩
      rw [step_run (build0 _)]
      refine st_ring hU7 hO7 2 rfl rfl rfl (.inr hg2) ?_
      intro w8 hU8 hO8 d0 d1
      refine ldr24 d0 d1 ?_
      unfold nextR
      rw [if_pos hmay, show ((h0 : Nat) : Int).toNat = h0 by omega, heq, Nat.sub_self]
      exact ⟨rfl, hU8⟩
  · rw [if_neg hmay]
    simp (disch := first | assumption | omega) only [PX, BX]
    refine ⟨fun _ => ?_, fun h => absurd (by decide) h⟩
    rw [step_run (build0 _)]
    refine st_ring hUw3 hO3 0 rfl rfl rfl (.inr hg2) ?_
    intro w5 hU5 hO5 d0 d1
    refine ldr24 d0 d1 ?_
    unfold nextR
    rw [if_neg hmay]
    exact ⟨rfl, hU5⟩

end Go.Proofs.Ytnghnolpohahpaa
