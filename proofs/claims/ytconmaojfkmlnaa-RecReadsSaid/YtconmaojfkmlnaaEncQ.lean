/- Ported from another seat (enc/S7.lean). -/
import Derived.Test.YtconmaojfkmlnaaEncN
namespace Go.Proofs.Ytconmaojfkmlnaa.Enc
open Go Go.Proofs.Ytconmaojfkmlnaa Xf Go.RowKit
set_option linter.unusedVariables false
set_option linter.unusedSimpArgs false
set_option maxRecDepth 100000

def qO (B : List UInt8) (at_ e : Nat) : Obj := .cells #[.string ⟨B.toArray⟩, .int .i64 (at_ : Nat), .int .i64 (e : Nat)] 63 (0, 0)
def qV (B : List UInt8) (at_ e : Nat) : Value := .agg #[.string ⟨B.toArray⟩, .int .i64 (at_ : Nat), .int .i64 (e : Nat)]
theorem ld63 {g : Nat} {B : List UInt8} {a e : Nat} {w : World} {K : Value → World → Prop} (h : w.heap[g]? = some (qO B a e)) : (std Try.prog).step (sLoad 63 (.pointer (some ⟨g, 0, none⟩))) w K = K (qV B a e) w :=
  step_run (run_sLoad (run_loadVarN (cs := [.string ⟨B.toArray⟩, .int .i64 (a : Nat), .int .i64 (e : Nat)]) ag63 (by rw [sz63]; rfl) (cells_read h)))
theorem ldr63 {g : Nat} {B : List UInt8} {a e : Nat} {w : World} {k : Value → Prop} (h : w.heap[g]? = some (qO B a e)) (hk : k (qV B a e)) : (std Try.prog).loadR 63 (.pointer (some ⟨g, 0, none⟩)) w k :=
  st_loadR (run_loadVarN (cs := [.string ⟨B.toArray⟩, .int .i64 (a : Nat), .int .i64 (e : Nat)]) ag63 (by rw [sz63]; rfl) (cells_read h)) hk
theorem st_q {w W : World} {h : List (Nat × Obj)} {K : Value → World → Prop} (hU : Upd W w []) (hO : Owns w h) (i : Nat) {g : Nat} {x y z : Value} {B : List UInt8} {a e : Nat} (hi : h[i]? = some (g, .cells #[x, y, z] 63 (0, 0))) (hg : W.heap.size ≤ g)
    (hk : ∀ w', Upd W w' [] → Owns w' (h.set i (g, qO B a e)) → w'.heap[g]? = some (qO B a e) → K undef w') : (std Try.prog).step (sStore 63 (.pointer (some ⟨g, 0, none⟩)) (qV B a e)) w K := by
  refine st_storeN (vs := [.string ⟨B.toArray⟩, .int .i64 (a : Nat), .int .i64 (e : Nat)]) (by rw [sz63]; rfl) hU hO i hi (by simp) (by intro u hu; simp at hu; rcases hu with rfl | rfl | rfl <;> rfl) (.inr hg) ?_
  intro w' hU' hO'
  have hlt := (List.getElem?_eq_some_iff.1 hi).1
  have hO' : Owns w' (h.set i (g, qO B a e)) := hO'
  exact hk w' hU' hO' (hO'.at_ i (List.getElem?_set_self hlt))

theorem refLeft_spec (w : World) (B : List UInt8) (a e : Nat) (ha : a ≤ B.length) (hB : B.length ≤ maxLen) : CallsR Try.prog 60 #[qV B a e] w fun r w' => r = .int .i64 ((B.drop a).length : Nat) ∧ Upd w w' [] := by
  apply flotillaref01_Left_sound
  unfold flotillaref01_Left_x
  refine st_box (Upd.refl w []) (Owns.nil w) ?_
  intro g w1 hU1 hO1 hg
  have c0 : w1.cell? ⟨g, 0, none⟩ = some (.string ⟨B.toArray⟩) := cell_at (hO1.at_ 0 rfl)
  have c1 : w1.cell? ⟨g, 1, none⟩ = some (.int .i64 (a : Nat)) := cell_at (hO1.at_ 0 rfl)
  unfold maxLen at hB
  simp (disch := first | assumption | omega) only [PX, LX, add_mk, Nat.zero_add, size_mk, w64]
  refine ⟨?_, hU1⟩
  rw [List.length_drop]
  congr 1; omega

/-- where the document's reader stands behind it, and its error -/
def takeQ (B : List UInt8) (a e n : Nat) : Nat × Nat := if e ≠ 0 then (a, e) else if (B.drop a).length < n then (a, 4) else (a + n, 0)
theorem takeQ_eq (B : List UInt8) (a e n : Nat) : (takeR (B.drop a) e n).2 = (B.drop (takeQ B a e n).1, (takeQ B a e n).2) := by
  unfold takeR takeQ
  split
  · rfl
  · split
    · rfl
    · simp [List.drop_drop]
theorem takeQ_le {B : List UInt8} {a e n : Nat} (ha : a ≤ B.length) : (takeQ B a e n).1 ≤ B.length := by
  unfold takeQ
  split
  · exact ha
  · split
    · exact ha
    · rename_i h; simp at h ⊢; omega

theorem refTake_spec (w : World) (B : List UInt8) (a e n : Nat) (ha : a ≤ B.length) (hB : B.length ≤ 140737488355328) (hn : n ≤ 8) :
    CallsR Try.prog 26 #[qV B a e, .int .i64 (n : Nat)] w fun r w' => r = .tuple #[qV B (takeQ B a e n).1 (takeQ B a e n).2, .int .u64 (leVal (takeR (B.drop a) e n).1 : Nat)] ∧ Upd w w' [] := by
  apply flotillaref01_Take_sound
  unfold flotillaref01_Take_x
  refine st_box (Upd.refl w []) (Owns.nil w) ?_
  intro g2 w1 hU1 hO1 hg2
  refine st_alloc ze63 hU1 hO1 ?_
  intro g4 w2 hU2 hO2 hg4
  have hO2 : Owns w2 [(g4, .cells #[.string ⟨#[]⟩, .int .i64 0, .int .i64 0] 63 (0, 0)), (g2, qO B a e)] := hO2
  have c2 : w2.cell? ⟨g2, 2, none⟩ = some (.int .i64 (e : Nat)) := cell_at (hO2.at_ 1 rfl)
  have tell : ∀ (w3 : World) (a' e' m : Nat), Upd w w3 [] → Owns w3 [(g4, .cells #[.string ⟨#[]⟩, .int .i64 0, .int .i64 0] 63 (0, 0)), (g2, qO B a' e')] → takeQ B a e n = (a', e') → leVal (takeR (B.drop a) e n).1 = m →
      (std Try.prog).step (sLoad 63 (.pointer (some ⟨g2, 0, none⟩))) w3 fun v u => (std Try.prog).step (sStore 63 (.pointer (some ⟨g4, 0, none⟩)) v) u fun _ u => (std Try.prog).loadR 63 (.pointer (some ⟨g4, 0, none⟩)) u fun r =>
        (Value.tuple #[r, .int .u64 (m : Nat)] = .tuple #[qV B (takeQ B a e n).1 (takeQ B a e n).2, .int .u64 (leVal (takeR (B.drop a) e n).1 : Nat)] ∧ Upd w u []) := by
    intro w3 a' e' m hU3 hO3 hq hm
    rw [ld63 (hO3.at_ 1 rfl)]
    refine st_q hU3 hO3 0 rfl hg4 ?_
    intro w4 hU4 hO4 h4
    refine ldr63 h4 ⟨?_, hU4⟩
    rw [hq, hm]
  simp (disch := first | assumption | omega) only [PX, BX, LX, add_mk, Nat.zero_add]
  refine ⟨fun he => ?_, fun he => ?_⟩
  · exact tell w2 a e 0 hU2 hO2 (by unfold takeQ; rw [if_pos (by omega)]) (by unfold takeR; rw [if_pos (by omega)]; rfl)
  have e0 : e = 0 := by omega
  subst e0
  rw [ld63 (hO2.at_ 1 rfl)]
  refine st_call (refLeft_spec w2 B a 0 ha (by unfold maxLen; omega)) ?_
  rintro _ w3 ⟨rfl, hU3⟩
  have hO3 := hO2.ext hU3
  have hU3 := hU2.trans hU3
  simp (disch := first | assumption | omega) only [PX, BX, LX, add_mk, Nat.zero_add]
  refine ⟨fun hlt => ?_, fun hge => ?_⟩
  · refine st_storeB sz34 rfl hU3 hO3 1 rfl (by simp) (.inr (Nat.zero_le _)) (.inr hg2) ?_
    intro w4 hU4 hO4
    exact tell w4 a 4 0 hU4 hO4 (by unfold takeQ; rw [if_neg (by omega), if_pos (by omega)]) (by unfold takeR; rw [if_neg (by omega), if_pos (by omega)]; rfl)
  have hge' : n ≤ (B.drop a).length := by omega
  have hdl : (B.drop a).length = B.length - a := List.length_drop
  have c0 : w3.cell? ⟨g2, 0, none⟩ = some (.string ⟨B.toArray⟩) := cell_at (hO3.at_ 1 rfl)
  have c1 : w3.cell? ⟨g2, 1, none⟩ = some (.int .i64 (a : Nat)) := cell_at (hO3.at_ 1 rfl)
  have hbl : ((B.drop a).take n).length = n := by rw [List.length_take]; omega
  rw [w64 (by omega) (by omega)]
  refine st_loop (fun vs w' => ∃ j : Nat, j ≤ n ∧ vs.getD 0 undef = .int .u64 (leVal (((B.drop a).take n).drop j) : Nat) ∧ vs.getD 1 undef = .int .i64 ((j : Int) - 1) ∧ w' = w3) (fun vs _ => (intOf (vs.getD 1 undef) + 1).toNat) ⟨n, by omega, by rw [List.drop_of_length_le (by omega)]; rfl, rfl, rfl⟩ ?_
  rintro dv vs w4 - ⟨j, hj, e0, e1, rfl⟩
  simp (disch := first | assumption | omega) only [e0, e1, PX, BX, LX, add_mk, Nat.zero_add]
  refine ⟨fun hjp => ?_, fun hjn => ?_⟩
  · obtain ⟨i, rfl⟩ : ∃ i, j = i + 1 := ⟨j - 1, by omega⟩
    have hib : i < ((B.drop a).take n).length := by omega
    have hx : (B.drop a).take n = (B.drop a).take n := rfl
    have hget : B[(((a : Nat) : Int) + (((i + 1 : Nat) : Int) - 1)).toNat]? = some (((B.drop a).take n)[i]) := by
      rw [show (((a : Nat) : Int) + (((i + 1 : Nat) : Int) - 1)).toNat = a + i by omega]
      rw [List.getElem_take, List.getElem_drop, List.getElem?_eq_getElem]
    have hval : leVal (((B.drop a).take n).drop i) = (((B.drop a).take n)[i]).toNat + 256 * leVal (((B.drop a).take n).drop (i + 1)) := by
      rw [List.drop_eq_getElem_cons hib]; rfl
    have hlt : leVal (((B.drop a).take n).drop i) < 18446744073709551616 := by
      have h1 := leVal_lt (((B.drop a).take n).drop i)
      have h2 : (((B.drop a).take n).drop i).length ≤ 8 := by rw [List.length_drop]; omega
      have h3 : 256 ^ (((B.drop a).take n).drop i).length ≤ 256 ^ 8 := Nat.pow_le_pow_right (by omega) h2
      have h4 : (256 ^ 8 : Nat) = 18446744073709551616 := by decide
      omega
    have hb8 := UInt8.toNat_lt (((B.drop a).take n)[i])
    rw [show (256 : Int) * ((leVal (((B.drop a).take n).drop (i + 1)) : Nat) : Int) = ((256 * leVal (((B.drop a).take n).drop (i + 1)) : Nat) : Int) by norm_cast, wrapU64, Nat.mod_eq_of_lt (by omega), w64 (by omega) (by omega)]
    rw [step_run (run_idxStr (i := ((a : Nat) : Int) + (((i + 1 : Nat) : Int) - 1)) (l := B) u9 (by omega) hget)]
    simp (disch := first | assumption | omega) only [PX, wrapU64]
    rw [Nat.mod_eq_of_lt (show (((B.drop a).take n)[i]).toNat < 18446744073709551616 by omega), ← Int.natCast_add, wrapU64, Nat.add_comm, ← hval, Nat.mod_eq_of_lt hlt, w64 (by omega) (by omega)]
    refine ⟨⟨i, by omega, rfl, by simp, trivial⟩, ?_⟩
    simp only [List.getD_cons_succ, List.getD_cons_zero, intOf]; omega
  · obtain rfl : j = 0 := by omega
    rw [List.drop_zero]
    unfold flotillaref01_Take_k1
    simp (disch := first | assumption | omega) only [PX, LX, add_mk, Nat.zero_add, w64]
    refine st_storeB sz3 rfl hU3 hO3 1 rfl (by simp) (.inr (Nat.zero_le _)) (.inr hg2) ?_
    intro w5 hU5 hO5
    have hO5 : Owns w5 [(g4, .cells #[.string ⟨#[]⟩, .int .i64 0, .int .i64 0] 63 (0, 0)), (g2, qO B (a + n) 0)] := hO5
    exact tell w5 (a + n) 0 _ hU5 hO5 (by unfold takeQ; rw [if_neg (by omega), if_neg (by omega)]) (by unfold takeR; rw [if_neg (by omega), if_neg (by omega)])

def textQ (B : List UInt8) (a e : Nat) (most : Int) : Nat × Nat :=
  if e ≠ 0 then (a, e) else if (B.drop a).length < 2 then (a, 4) else if max most 0 < (leVal ((B.drop a).take 2) : Int) then (a, 3) else
  if (B.drop (a + 2)).length < leVal ((B.drop a).take 2) then (a, 4) else (a + 2 + leVal ((B.drop a).take 2), 0)
theorem textQ_eq (B : List UInt8) (a e : Nat) (most : Int) : (textR (B.drop a) e most).2 = (B.drop (textQ B a e most).1, (textQ B a e most).2) := by
  unfold textR textQ
  rw [List.drop_drop]
  split
  · rfl
  · split
    · rfl
    · split
      · rfl
      · split
        · rfl
        · simp [List.drop_drop]
theorem textQ_le {B : List UInt8} {a e : Nat} {most : Int} (ha : a ≤ B.length) : (textQ B a e most).1 ≤ B.length := by
  unfold textQ
  split
  · exact ha
  · split
    · exact ha
    · split
      · exact ha
      · split
        · exact ha
        · rename_i h1 h2 h3; simp at h1 h3 ⊢; omega

theorem refTakeText_spec (w : World) (B : List UInt8) (a e : Nat) (most : Int) (ha : a ≤ B.length) (hB : B.length ≤ 140737488355328) :
    CallsR Try.prog 61 #[qV B a e, .int .i64 most] w fun r w' => r = .tuple #[qV B (textQ B a e most).1 (textQ B a e most).2, .string ⟨(textR (B.drop a) e most).1.toArray⟩] ∧ Upd w w' [] := by
  apply flotillaref01_TakeText_sound
  unfold flotillaref01_TakeText_x
  refine st_box (Upd.refl w []) (Owns.nil w) ?_
  intro g2 w1 hU1 hO1 hg2
  refine st_alloc ze63 hU1 hO1 ?_
  intro g4 w2 hU2 hO2 hg4
  have hO2 : Owns w2 [(g4, .cells #[.string ⟨#[]⟩, .int .i64 0, .int .i64 0] 63 (0, 0)), (g2, qO B a e)] := hO2
  rw [ld63 (hO2.at_ 1 rfl)]
  refine st_call (refTake_spec w2 B a e 2 ha hB (by omega)) ?_
  rintro _ w3 ⟨rfl, hU3⟩
  have hO3 := hO2.ext hU3
  have hU3 := hU2.trans hU3
  rw [px_ext20, px_ext21]
  refine st_alloc ze63 hU3 hO3 ?_
  intro g6 w4 hU4 hO4 hg6
  refine st_q hU4 hO4 0 rfl hg6 ?_
  intro w5 hU5 hO5 h5
  have hO5 : Owns w5 [(g6, qO B (takeQ B a e 2).1 (takeQ B a e 2).2), (g4, .cells #[.string ⟨#[]⟩, .int .i64 0, .int .i64 0] 63 (0, 0)), (g2, qO B a e)] := hO5
  have c2 : w5.cell? ⟨g6, 2, none⟩ = some (.int .i64 ((takeQ B a e 2).2 : Nat)) := cell_at h5
  simp (disch := first | assumption | omega) only [PX, BX, LX, add_mk, Nat.zero_add]
  -- an answer that is no text
  have tell : ∀ (w6 : World) (gs : Nat) (i : Nat) (a' e' : Nat) (H : List (Nat × Obj)), Upd w w6 [] → Owns w6 H → w6.heap[gs]? = some (qO B a' e') → H[1]? = some (g4, .cells #[.string ⟨#[]⟩, .int .i64 0, .int .i64 0] 63 (0, 0)) → textQ B a e most = (a', e') → (textR (B.drop a) e most).1 = [] →
      (std Try.prog).step (sLoad 63 (.pointer (some ⟨gs, 0, none⟩))) w6 fun v u => (std Try.prog).step (sStore 63 (.pointer (some ⟨g4, 0, none⟩)) v) u fun _ u => (std Try.prog).loadR 63 (.pointer (some ⟨g4, 0, none⟩)) u fun r =>
        (Value.tuple #[r, .string ⟨#[]⟩] = .tuple #[qV B (textQ B a e most).1 (textQ B a e most).2, .string ⟨(textR (B.drop a) e most).1.toArray⟩] ∧ Upd w u []) := by
    intro w6 gs i a' e' H hU6 hO6 hgs hH hq hm
    rw [ld63 hgs]
    refine st_q hU6 hO6 1 hH hg4 ?_
    intro w7 hU7 hO7 h7
    refine ldr63 h7 ⟨?_, hU7⟩
    rw [hq, hm]
  refine ⟨fun he => ?_, fun he => ?_⟩
  · refine tell w5 g6 0 _ _ _ hU5 hO5 h5 rfl ?_ ?_
    · unfold textQ takeQ at *
      by_cases h1 : e ≠ 0
      · simp only [if_pos h1]
      · simp only [if_neg h1] at he ⊢
        by_cases h2 : (B.drop a).length < 2
        · simp only [if_pos h2]
        · simp only [if_neg h2] at he; exact absurd rfl he
    · unfold textR takeQ at *
      by_cases h1 : e ≠ 0
      · simp only [if_pos h1]
      · simp only [if_neg h1] at he ⊢
        by_cases h2 : (B.drop a).length < 2
        · simp only [if_pos h2]
        · simp only [if_neg h2] at he; exact absurd rfl he
  have h1 : ¬ e ≠ 0 := by
    intro h; apply he; unfold takeQ; simp only [if_pos h]; omega
  have h2 : ¬ (B.drop a).length < 2 := by
    intro h; apply he; unfold takeQ; simp only [if_neg h1, if_pos h]; decide
  have hq2 : takeQ B a e 2 = (a + 2, 0) := by unfold takeQ; rw [if_neg h1, if_neg h2]
  have hv : (takeR (B.drop a) e 2).1 = (B.drop a).take 2 := by unfold takeR; rw [if_neg h1, if_neg h2]
  rw [hq2] at hO5 h5
  rw [hv]
  have hlt := leVal_lt ((B.drop a).take 2)
  have hl2 : ((B.drop a).take 2).length = 2 := by rw [List.length_take]; omega
  rw [hl2] at hlt
  generalize hn : leVal ((B.drop a).take 2) = n at *
  have e0 : e = 0 := by omega
  subst e0
  have hdl : (B.drop a).length = B.length - a := List.length_drop
  have hdl2 : (B.drop (a + 2)).length = B.length - (a + 2) := List.length_drop
  have rest : ∀ mx : Int, mx = max most 0 → flotillaref01_TakeText_k1 (std Try.prog) (.pointer (some ⟨g2, 0, none⟩)) (.pointer (some ⟨g4, 0, none⟩)) (.int .u64 (n : Nat)) (.pointer (some ⟨g6, 0, none⟩)) (.int .i64 mx) w5 fun r w' => r = .tuple #[qV B (textQ B a 0 most).1 (textQ B a 0 most).2, .string ⟨(textR (B.drop a) 0 most).1.toArray⟩] ∧ Upd w w' [] := by
    intro mx hmx
    unfold flotillaref01_TakeText_k1
    simp (disch := first | assumption | omega) only [PX, BX, add_mk, Nat.zero_add, w64]
    refine ⟨fun hgt => ?_, fun hle => ?_⟩
    · refine st_storeB sz34 rfl hU5 hO5 2 rfl (by simp) (.inr (Nat.zero_le _)) (.inr hg2) ?_
      intro w6 hU6 hO6
      have hO6 : Owns w6 [(g6, qO B (a + 2) 0), (g4, .cells #[.string ⟨#[]⟩, .int .i64 0, .int .i64 0] 63 (0, 0)), (g2, qO B a 3)] := hO6
      refine tell w6 g2 2 a 3 _ hU6 hO6 (hO6.at_ 2 rfl) rfl ?_ ?_
      · unfold textQ; rw [if_neg h1, if_neg h2, hn, if_pos (by omega)]
      · unfold textR; rw [if_neg h1, if_neg h2, hn, if_pos (by omega)]
    rw [ld63 h5]
    refine st_call (refLeft_spec w5 B (a + 2) 0 (by omega) (by unfold maxLen; omega)) ?_
    rintro _ w6 ⟨rfl, hU6⟩
    have hO6 := hO5.ext hU6
    have hU6 := hU5.trans hU6
    have c1 : w6.cell? ⟨g6, 1, none⟩ = some (.int .i64 ((a + 2 : Nat) : Int)) := cell_at (hO6.at_ 0 rfl)
    simp (disch := first | assumption | omega) only [PX, BX, LX, add_mk, Nat.zero_add, w64]
    refine ⟨fun hlt2 => ?_, fun hge => ?_⟩
    · refine st_storeB sz34 rfl hU6 hO6 2 rfl (by simp) (.inr (Nat.zero_le _)) (.inr hg2) ?_
      intro w7 hU7 hO7
      have hO7 : Owns w7 [(g6, qO B (a + 2) 0), (g4, .cells #[.string ⟨#[]⟩, .int .i64 0, .int .i64 0] 63 (0, 0)), (g2, qO B a 4)] := hO7
      refine tell w7 g2 2 a 4 _ hU7 hO7 (hO7.at_ 2 rfl) rfl ?_ ?_
      · unfold textQ; rw [if_neg h1, if_neg h2, hn, if_neg (by omega), if_pos (by omega)]
      · unfold textR; rw [if_neg h1, if_neg h2, hn, if_neg (by omega), List.drop_drop, if_pos (by omega)]
    refine st_storeB sz3 rfl hU6 hO6 0 rfl (by simp) (.inr (Nat.zero_le _)) (.inr hg6) ?_
    intro w7 hU7 hO7
    rw [← Int.natCast_add] at hO7
    have hO7 : Owns w7 [(g6, qO B (a + 2 + n) 0), (g4, .cells #[.string ⟨#[]⟩, .int .i64 0, .int .i64 0] 63 (0, 0)), (g2, qO B a 0)] := hO7
    let S : World → Prop := fun w' => w'.heap[g6]? = some (qO B (a + 2 + n) 0) ∧ w'.heap[g2]? = some (qO B a 0)
    have hO8 := hO7.ext (Upd.drew w7 [])
    have hS : S w7.drew := ⟨hO8.at_ 0 rfl, hO8.at_ 2 rfl⟩
    have hne : ∃ w', S w' := ⟨_, hS⟩
    have d1 : ∀ w', S w' → w'.cell? ⟨g6, 1, none⟩ = some (.int .i64 ((a + 2 + n : Nat) : Int)) := fun w' h => cell_at h.1
    have d0 : ∀ w', S w' → w'.cell? ⟨g2, 0, none⟩ = some (.string ⟨B.toArray⟩) := fun w' h => cell_at h.2
    refine st_draw S hS ?_
    rw [stepS_run hne fun w' h => run_sLoad (run_loadVarN (cs := [.string ⟨B.toArray⟩, .int .i64 ((a + 2 + n : Nat) : Int), .int .i64 ((0 : Nat) : Int)]) ag63 (by rw [sz63]; rfl) (cells_read h.1))]
    simp (disch := first | assumption | omega) only [SX, SLX, add_mk, Nat.zero_add, w64]
    have hsl : ∀ w' : World, (sSlice 9 (.string ⟨B.toArray⟩) (some (.int .i64 (((a + 2 + n : Nat) : Int) - (n : Int)))) (some (.int .i64 ((a + 2 + n : Nat) : Int))) none).run Try.prog w' = .ok (.value (.string ⟨((B.drop (a + 2)).take n).toArray⟩)) w' := by
      intro w'
      unfold sSlice Instr.sliceAt
      rw [run_sV, Sem.run_bind, run_underlying' u9]
      have hb : ((a + 2 + n : Nat) : Int) ≤ ((⟨B.toArray⟩ : ByteArray).size : Nat) := by rw [size_mk]; omega
      have hlo : ((a + 2 + n : Nat) : Int) - (n : Int) = ((a + 2 : Nat) : Int) := by omega
      rw [hlo]
      simp only [Result.andThen_ok, Instr.slice, Sem.run_bind, run_underlying' u9, Instr.sliceBounds, Sem.run_pure, sliceBound_run (show (0 : Int) ≤ ((a + 2 + n : Nat) : Int) by omega) hb, Option.isSome_none, Bool.false_eq_true, if_false, mk_extract, Int.toNat_natCast]
      rw [sliceBound_run (show (0 : Int) ≤ ((a + 2 : Nat) : Int) by omega) (show ((a + 2 : Nat) : Int) ≤ ((a + 2 + n : Nat) : Int) by omega)]
      simp only [Result.andThen_ok, Int.toNat_natCast]
      rw [show a + 2 + n - (a + 2) = n by omega]
    rw [stepS_run hne fun w' _ => hsl w']
    refine st_q (hU7.trans (Upd.drew w7 [])) hO8 1 rfl hg4 ?_
    intro w9 hU9 hO9 h9
    refine st_same ⟨hO9.at_ 0 rfl, hO9.at_ 2 rfl⟩ ?_
    refine ldr63 h9 ⟨?_, hU9⟩
    have hQ : textQ B a 0 most = (a + 2 + n, 0) := by unfold textQ; rw [if_neg h1, if_neg h2, hn, if_neg (by omega), if_neg (by omega)]
    have hT : (textR (B.drop a) 0 most).1 = (B.drop (a + 2)).take n := by unfold textR; rw [if_neg h1, if_neg h2, hn, if_neg (by omega), List.drop_drop, if_neg (by omega)]
    rw [hQ, hT]
  exact ⟨fun hm => rest 0 (by omega), fun hm => rest most (by omega)⟩

theorem refEnd_spec (w : World) (B : List UInt8) (a e : Nat) (ha : a ≤ B.length) (hB : B.length ≤ maxLen) : CallsR Try.prog 30 #[qV B a e] w fun r w' => r = .int .i64 (endR (B.drop a) e : Nat) ∧ Upd w w' [] := by
  apply flotillaref01_End_sound
  unfold flotillaref01_End_x
  refine st_box (Upd.refl w []) (Owns.nil w) ?_
  intro g w1 hU1 hO1 hg
  have hO1 : Owns w1 [(g, qO B a e)] := hO1
  have c2 : w1.cell? ⟨g, 2, none⟩ = some (.int .i64 (e : Nat)) := cell_at (hO1.at_ 0 rfl)
  simp (disch := first | assumption | omega) only [PX, BX, LX, add_mk, Nat.zero_add, flotillaref01_End_k1]
  unfold endR
  refine ⟨fun he => ?_, fun he => ?_⟩
  · rw [ld63 (hO1.at_ 0 rfl)]
    refine st_call (refLeft_spec w1 B a e ha hB) ?_
    rintro _ w2 ⟨rfl, hU2⟩
    have c2 : w2.cell? ⟨g, 2, none⟩ = some (.int .i64 (e : Nat)) := cell_at ((hO1.ext hU2).at_ 0 rfl)
    simp (disch := first | assumption | omega) only [PX, BX, LX, add_mk, Nat.zero_add]
    refine ⟨fun hl => ⟨?_, hU1.trans hU2⟩, fun hl => ⟨?_, hU1.trans hU2⟩⟩
    · rw [if_pos ⟨by omega, by intro h; rw [h] at hl; simp at hl⟩]; rfl
    · rw [if_neg (by rintro ⟨_, h⟩; exact h (List.eq_nil_of_length_eq_zero (by omega)))]
  · rw [if_neg (by rintro ⟨h, _⟩; omega)]
    exact ⟨rfl, hU1⟩
end Go.Proofs.Ytconmaojfkmlnaa.Enc
