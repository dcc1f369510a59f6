/- What is laid is taken off as it was. -/
import Derived.Test.YtibacmekhkaipaaS5
namespace Go.Proofs.Ytibacmekhkaipaa
open Go Xf Go.RowKit
set_option linter.unusedVariables false
set_option linter.unusedSimpArgs false
set_option maxRecDepth 100000

theorem RI.base {W W1 w : World} {F hb : List (Nat × Obj)} {g e : Nat} {l : List UInt8} (h : RI W1 F g hb l e w) (hU : Upd W W1 []) : RI W F g hb l e w := by
  obtain ⟨v, h1, h2, h3, h4⟩ := h
  exact ⟨v, h1, h2, hU.trans h3, Nat.le_trans hU.size h4⟩

/-- is what is taken off the thing? what is left, the error -/
def takenR (l : List UInt8) (e : Nat) (t : Th) : Bool × List UInt8 × Nat := match kN t.kind with
  | 0 => (decide (leVal (takeR l e 1).1 = t.n % 256), (takeR l e 1).2)
  | 1 => (decide (leVal (takeR l e 2).1 = t.n % 65536), (takeR l e 2).2)
  | 2 => (decide (leVal (takeR l e 4).1 = t.n % 4294967296), (takeR l e 4).2)
  | 3 => (decide (leVal (takeR l e 8).1 = t.n), (takeR l e 8).2)
  | _ => (decide ((textR l e 65535).1 = t.s), (textR l e 65535).2)

theorem taken_spec {W w : World} {F hb : List (Nat × Obj)} {g e : Nat} {l : List UInt8} (t : Th) (h : RI W F g hb l e w) :
    CallsR Try.prog 16 #[.pointer (some ⟨g, 0, none⟩), .agg (thV t).toArray] w fun r w' => r = .bool (takenR l e t).1 ∧ RI W F g hb (takenR l e t).2.1 (takenR l e t).2.2 w' := by
  apply flotillalaw01_taken_sound
  unfold flotillalaw01_taken_x
  refine st_box (Upd.refl w []) (Owns.nil w) ?_
  intro g3 w1 hU1 hO1 hg3
  have hR1 : RI W ((g3, .cells (thV t).toArray 36 (0, 0)) :: F) g hb l e w1 := h.push hU1 (hO1.at_ 0 rfl) hg3
  rw [ld36 (hO1.at_ 0 rfl)]
  refine st_call (kind_spec w1 t) ?_
  rintro _ w2 ⟨rfl, hU2⟩
  have hR2 := hR1.ext hU2
  have hR3 := hR2.ext (Upd.drew w2 [])
  let S : World → Prop := fun w' => w'.heap[g3]? = some (.cells (thV t).toArray 36 (0, 0))
  have hk' : ∀ {l' : List UInt8} {e' : Nat} {w' : World}, RI W ((g3, .cells (thV t).toArray 36 (0, 0)) :: F) g hb l' e' w' → S w' := fun h => h.kept.at_ 0 rfl
  have hS : S w2.drew := hk' hR3
  have hne : ∃ w', S w' := ⟨_, hS⟩
  have c1 : ∀ w', S w' → w'.cell? ⟨g3, 1, none⟩ = some (.int .u64 (t.n : Nat)) := fun w' h => cell_at h
  have c2 : ∀ w', S w' → w'.cell? ⟨g3, 2, none⟩ = some (.string ⟨t.s.toArray⟩) := fun w' h => cell_at h
  have hk := kN_lt t.kind
  simp (disch := first | assumption | omega) only [PX, BX]
  refine ⟨fun h0 => ?_, fun h0 => ⟨fun h1 => ?_, fun h1 => ⟨fun h2 => ?_, fun h2 => ⟨fun h3 => ?_, fun h3 => ?_⟩⟩⟩⟩
  · have hT : takenR l e t = (decide (leVal (takeR l e 1).1 = t.n % 256), (takeR l e 1).2) := by unfold takenR; simp only [show kN t.kind = 0 by omega]
    refine st_draw S hS ?_
    simp (disch := first | assumption | omega) only [SX, SLX, add_mk, Nat.zero_add, wrapU8]
    refine st_call (rByte_spec hR3) ?_
    rintro _ w3 ⟨hR, rfl⟩
    refine st_same (hk' hR) ?_
    rw [sx_eql hne, hT]
    refine ⟨?_, hR.pop⟩
    congr 1; simp only [decide_eq_decide]; omega
  · have hT : takenR l e t = (decide (leVal (takeR l e 2).1 = t.n % 65536), (takeR l e 2).2) := by unfold takenR; simp only [show kN t.kind = 1 by omega]
    refine st_draw S hS ?_
    simp (disch := first | assumption | omega) only [SX, SLX, add_mk, Nat.zero_add, wrapU16]
    refine st_call (rTwo_spec hR3) ?_
    rintro _ w3 ⟨hR, rfl⟩
    refine st_same (hk' hR) ?_
    rw [sx_eql hne, hT]
    refine ⟨?_, hR.pop⟩
    congr 1; simp only [decide_eq_decide]; omega
  · have hT : takenR l e t = (decide (leVal (takeR l e 4).1 = t.n % 4294967296), (takeR l e 4).2) := by unfold takenR; simp only [show kN t.kind = 2 by omega]
    refine st_draw S hS ?_
    simp (disch := first | assumption | omega) only [SX, SLX, add_mk, Nat.zero_add, wrapU32]
    refine st_call (rFour_spec hR3) ?_
    rintro _ w3 ⟨hR, rfl⟩
    refine st_same (hk' hR) ?_
    rw [sx_eql hne, hT]
    refine ⟨?_, hR.pop⟩
    congr 1; simp only [decide_eq_decide]; omega
  · have hT : takenR l e t = (decide (leVal (takeR l e 8).1 = t.n), (takeR l e 8).2) := by unfold takenR; simp only [show kN t.kind = 3 by omega]
    refine st_draw S hS ?_
    simp (disch := first | assumption | omega) only [SX, SLX, add_mk, Nat.zero_add]
    refine st_call (rEight_spec hR3) ?_
    rintro _ w3 ⟨hR, rfl⟩
    refine st_same (hk' hR) ?_
    rw [sx_eql hne, hT]
    refine ⟨?_, hR.pop⟩
    congr 1; simp only [decide_eq_decide]; omega
  · have hT : takenR l e t = (decide ((textR l e 65535).1 = t.s), (textR l e 65535).2) := by unfold takenR; simp only [show kN t.kind = 4 by omega]
    refine st_draw S hS ?_
    simp (disch := first | assumption | omega) only [SX, SLX, add_mk, Nat.zero_add]
    refine st_call (rText_spec 65535 hR3) ?_
    rintro _ w3 ⟨hR, rfl⟩
    refine st_same (hk' hR) ?_
    rw [sx_seql hne, hT]
    refine ⟨?_, hR.pop⟩
    congr 1; simp only [decide_eq_decide]; exact mk_inj

theorem takeR_leB (n k : Nat) (rest : List UInt8) : takeR (leB n k ++ rest) 0 k = (leB n k, rest, 0) := by
  unfold takeR
  rw [if_neg (by omega), if_neg (by rw [List.length_append, leB_len]; omega), List.take_append_of_le_length (by rw [leB_len]; exact Nat.le_refl _), List.take_of_length_le (by rw [leB_len]; exact Nat.le_refl _), List.drop_append, List.drop_of_length_le (by rw [leB_len]; exact Nat.le_refl _), leB_len, Nat.sub_self]
  rfl
theorem textB_parts (s rest : List UInt8) (hs : s.length ≤ 65535) : (textB s ++ rest).take 2 = leB s.length 2 ∧ (textB s ++ rest).drop 2 = s ++ rest := by
  have : textB s = leB s.length 2 ++ s := by unfold textB; rw [Nat.min_eq_left hs, List.take_of_length_le hs]
  rw [this, List.append_assoc]
  exact ⟨List.take_left' (leB_len _ _), List.drop_left' (leB_len _ _)⟩
theorem leVal_len {s : List UInt8} (hs : s.length ≤ 65535) : leVal (leB s.length 2) = s.length := by
  rw [leVal_leB]; exact Nat.mod_eq_of_lt (by omega)
theorem textR_back (s rest : List UInt8) (hs : s.length ≤ 65535) : textR (textB s ++ rest) 0 65535 = (s, rest, 0) := by
  obtain ⟨h1, h2⟩ := textB_parts s rest hs
  have hl := textB_len s
  unfold textR
  rw [if_neg (by omega), if_neg (by rw [List.length_append]; omega), h1, h2, leVal_len hs, if_neg (by omega), if_neg (by rw [List.length_append]; omega), List.take_left' rfl, List.drop_left' rfl]
theorem takenR_back (t : Th) (rest : List UInt8) (hs : t.s.length ≤ 65535) (hn : t.n < 18446744073709551616) : takenR (thB t ++ rest) 0 t = (true, rest, 0) := by
  have hk := kN_lt t.kind
  rcases (by omega : kN t.kind = 0 ∨ kN t.kind = 1 ∨ kN t.kind = 2 ∨ kN t.kind = 3 ∨ kN t.kind = 4) with h | h | h | h | h <;> unfold takenR thB <;> simp only [h]
  · rw [takeR_leB, decide_eq_true (by rw [leVal_leB])]
  · rw [takeR_leB, decide_eq_true (by rw [leVal_leB])]
  · rw [takeR_leB, decide_eq_true (by rw [leVal_leB])]
  · rw [takeR_leB, decide_eq_true (by rw [leVal_leB]; exact Nat.mod_eq_of_lt hn)]
  · rw [textR_back t.s rest hs, decide_eq_true rfl]
/-- of less than a thing nothing is taken off -/
theorem takenR_cut (t : Th) (rest : List UInt8) (c : Nat) (hs : t.s.length ≤ 65535) (hc : c < (thB t).length) : (takenR ((thB t ++ rest).take c) 0 t).2.2 = 4 := by
  have hk := kN_lt t.kind
  have hlen : ((thB t ++ rest).take c).length = c := by rw [List.length_take, List.length_append]; omega
  have num : ∀ k, (thB t) = leB t.n k → (takeR ((thB t ++ rest).take c) 0 k).2.2 = 4 := by
    intro k hk
    unfold takeR
    rw [if_neg (by omega), if_pos (by rw [hlen]; rw [hk, leB_len] at hc; exact hc)]
  rcases (by omega : kN t.kind = 0 ∨ kN t.kind = 1 ∨ kN t.kind = 2 ∨ kN t.kind = 3 ∨ kN t.kind = 4) with h | h | h | h | h
  · have := num 1 (by unfold thB; simp only [h]); unfold takenR; simp only [h]; exact this
  · have := num 2 (by unfold thB; simp only [h]); unfold takenR; simp only [h]; exact this
  · have := num 4 (by unfold thB; simp only [h]); unfold takenR; simp only [h]; exact this
  · have := num 8 (by unfold thB; simp only [h]); unfold takenR; simp only [h]; exact this
  · have hb : thB t = textB t.s := by unfold thB; simp only [h]
    have hT : (takenR ((thB t ++ rest).take c) 0 t).2 = (textR ((thB t ++ rest).take c) 0 65535).2 := by unfold takenR; simp only [h]
    rw [hT]
    rw [hb] at hc hlen ⊢
    obtain ⟨h1, h2⟩ := textB_parts t.s rest hs
    have hl := textB_len t.s
    unfold textR
    rw [if_neg (by omega)]
    by_cases hc2 : c < 2
    · rw [if_pos (by omega)]
    · rw [if_neg (by omega)]
      have e1 : ((textB t.s ++ rest).take c).take 2 = leB t.s.length 2 := by rw [List.take_take, Nat.min_eq_left (by omega), h1]
      rw [e1, leVal_len hs, if_neg (by omega), if_pos (by rw [List.length_drop, hlen]; omega)]

theorem EncBack_spec (W : World) (v : Value) (l : List Th) (hr : RdS W thV 3 v l) (hl : ∀ o ∈ l, o.n < 18446744073709551616) :
    CallsR Try.prog 6 #[v] W fun r w' => r = .bool true ∧ Upd W w' [] := by
  apply flotillalaw01_EncBack_sound
  unfold flotillalaw01_EncBack_x
  have fin : ∀ w', Upd W w' [] → (std Try.prog).calls 10 #[] w' fun r w_1 => r = .bool true ∧ Upd W w_1 [] := fun w' hU => st_call (lives_spec w') fun v w4 h => ⟨h.1, hU.trans h.2⟩
  obtain ⟨B, cb, rfl, hlm, hrd⟩ := hr
  refine st_call (New_spec W) ?_
  rintro _ w1 ⟨g, rfl, hW1⟩
  refine st_loop (fun vs w' => ∃ i : Nat, i ≤ l.length ∧ i ≤ 60 ∧ vs.getD 1 undef = .int .i64 i ∧ WI W [] g (allB (l.take i)) w' ∧ ∀ (j : Nat) (hj : j < l.length), j < i → l[j].s.length ≤ 65535) (fun vs _ => l.length - (intOf (vs.getD 1 undef)).toNat) ⟨0, by omega, by omega, rfl, hW1, fun j _ h => by omega⟩ ?_
  rintro dv vs w2 - ⟨i, hi, hi6, e1, hW2, hall⟩
  have hlen := allB_len (l.take i)
  rw [List.length_take] at hlen
  have ld : ∀ (i : Nat) (hi : i < l.length), ∃ a, B = some a ∧ (∀ (w' : World) (K : Value → World → Prop), Upd W w' [] → (std Try.prog).step (sLoad 36 (.pointer (some (a.add (i * 3))))) w' K = K (.agg (thV l[i]).toArray) w') ∧ ∀ w', Upd W w' [] → w'.cell? (a.add (i * 3 + 2)) = some (.string ⟨l[i].s.toArray⟩) := by
    intro i hi
    obtain ⟨a, ha, hc⟩ := hrd.row (f := thV) (k := 3) (fun _ => rfl) (by decide) hi
    rw [show ((i : Nat) : Int).toNat = i by omega] at hc
    exact ⟨a, ha, fun w' K hU => step_run (run_sLoad (run_loadVarN (cs := thV l[i]) ag36 (by rw [sz36]; rfl) fun j u hj => by rw [add_add']; exact hc w' hU j u hj)), fun w' hU => hc w' hU 2 _ rfl⟩
  have rest : ∀ u, (i = 60 ∨ i = l.length) → flotillalaw01_EncBack_k1 (std Try.prog) (.slice B l.length cb) (.pointer (some ⟨g, 0, none⟩)) u w2 fun r w' => r = .bool true ∧ Upd W w' [] := by
    intro u hend
    have hT : l.take i = l.take 60 := by
      rcases hend with rfl | h
      · rfl
      · rw [List.take_of_length_le (by omega), List.take_of_length_le (by omega)]
    rw [hT] at hW2
    have hlT : (l.take 60).length = i := by rw [← hT, List.length_take]; omega
    unfold flotillalaw01_EncBack_k1
    refine st_call (Done_spec (by rw [← hT]; omega) hW2) ?_
    intro b w3 hN
    refine st_call (Read_spec w3 b _ (by rw [← hT]; omega) hN.rd) ?_
    rintro _ w4 ⟨gr, hb, rfl, hR4, _⟩
    have hR4 := hR4.base (hW2.mid.trans hN.upd)
    refine st_loop (fun vs w' => ∃ k : Nat, k ≤ i ∧ vs.getD 1 undef = .int .i64 k ∧ RI W [] gr hb (allB ((l.take 60).drop k)) 0 w') (fun vs _ => i - (intOf (vs.getD 1 undef)).toNat) ⟨0, by omega, rfl, hR4⟩ ?_
    rintro dv2 vs2 w5 - ⟨k, hk, e1, hR5⟩
    have done : k = i → flotillalaw01_EncBack_k2 (std Try.prog) (.pointer (some ⟨gr, 0, none⟩)) w5 fun r w' => r = .bool true ∧ Upd W w' [] := by
      intro hki
      rw [List.drop_of_length_le (by omega)] at hR5
      unfold flotillalaw01_EncBack_k2
      refine st_call (rEnd_spec hR5) ?_
      rintro _ w6 ⟨rfl, rfl⟩
      rw [show endR (allB []) 0 = 0 from rfl]
      simp (disch := omega) only [PX, BX]
      refine ⟨fun _ => ?_, fun h => absurd rfl h⟩
      refine st_call (rLeft_spec hR5) ?_
      rintro _ w7 ⟨rfl, rfl⟩
      rw [show (allB []).length = 0 from rfl]
      simp (disch := omega) only [PX, BX]
      exact ⟨fun _ => fin _ hR5.mid, fun h => absurd rfl h⟩
    simp (disch := omega) only [e1, PX, BX]
    refine ⟨fun hlt => ⟨fun h60 => ?_, fun h60 => done (by omega)⟩, fun hge => done (by omega)⟩
    have hkl : k < l.length := by omega
    have hki : k < i := by omega
    obtain ⟨a, rfl, hld, _⟩ := ld k hkl
    simp (disch := omega) only [PX]
    rw [hld w5 _ hR5.mid]
    refine st_call (taken_spec l[k] hR5) ?_
    have hd : (l.take 60).drop k = l[k] :: (l.take 60).drop (k + 1) := by
      rw [List.drop_eq_getElem_cons (by omega)]
      congr 1
      rw [List.getElem_take]
    rw [hd, show allB (l[k] :: (l.take 60).drop (k + 1)) = thB l[k] ++ allB ((l.take 60).drop (k + 1)) from rfl, takenR_back l[k] _ (hall k hkl hki) (hl _ (List.getElem_mem hkl))]
    rintro _ w6 ⟨rfl, hR6⟩
    simp (disch := omega) only [PX, BX, Bool.not_true, w64]
    refine ⟨⟨k + 1, by omega, rfl, hR6⟩, ?_⟩
    simp only [List.getD_cons_succ, List.getD_cons_zero, intOf]; omega
  simp (disch := omega) only [e1, PX, BX]
  refine ⟨fun hlt => ⟨fun h60 => ?_, fun h60 => rest _ (by omega)⟩, fun hge => rest _ (by omega)⟩
  have hlt' : i < l.length := by omega
  obtain ⟨a, rfl, hld, hc2⟩ := ld i hlt'
  have k2 := hc2 w2 hW2.mid
  simp (disch := first | assumption | omega) only [PX, BX, LX, add_add', size_mk]
  refine ⟨fun _ => fin _ hW2.mid, fun hs => ?_⟩
  rw [hld w2 _ hW2.mid]
  refine st_call (lay_spec l[i] (by omega) hW2) ?_
  intro _ w3 hW3
  rw [← allB_succ hlt'] at hW3
  simp (disch := omega) only [PX, w64]
  refine ⟨⟨i + 1, by omega, by omega, rfl, hW3, fun j hj hji => ?_⟩, ?_⟩
  · by_cases h : j < i
    · exact hall j hj h
    · obtain rfl : j = i := by omega
      omega
  · simp only [List.getD_cons_succ, List.getD_cons_zero, intOf]; omega

theorem EncCut_spec (W : World) (v : Value) (l : List Th) (cut : Int) (hr : RdS W thV 3 v l) (hl : ∀ o ∈ l, o.n < 18446744073709551616) :
    CallsR Try.prog 5 #[v, .int .i64 cut] W fun r w' => r = .bool true ∧ Upd W w' [] := by
  apply flotillalaw01_EncCut_sound
  unfold flotillalaw01_EncCut_x
  have fin : ∀ w', Upd W w' [] → (std Try.prog).calls 10 #[] w' fun r w_1 => r = .bool true ∧ Upd W w_1 [] := fun w' hU => st_call (lives_spec w') fun v w4 h => ⟨h.1, hU.trans h.2⟩
  obtain ⟨B, cb, rfl, hlm, hrd⟩ := hr
  refine st_call (New_spec W) ?_
  rintro _ w1 ⟨g, rfl, hW1⟩
  refine st_loop (fun vs w' => ∃ i : Nat, i ≤ l.length ∧ i ≤ 60 ∧ vs.getD 0 undef = .int .i64 i ∧ WI W [] g (allB (l.take i)) w' ∧ ∀ (j : Nat) (hj : j < l.length), j < i → l[j].s.length ≤ 65535) (fun vs _ => l.length - (intOf (vs.getD 0 undef)).toNat) ⟨0, by omega, by omega, rfl, hW1, fun j _ h => by omega⟩ ?_
  rintro dv vs w2 - ⟨i, hi, hi6, e1, hW2, hall⟩
  have hlen := allB_len (l.take i)
  rw [List.length_take] at hlen
  have ld : ∀ (i : Nat) (hi : i < l.length), ∃ a, B = some a ∧ (∀ (w' : World) (K : Value → World → Prop), Upd W w' [] → (std Try.prog).step (sLoad 36 (.pointer (some (a.add (i * 3))))) w' K = K (.agg (thV l[i]).toArray) w') ∧ ∀ w', Upd W w' [] → w'.cell? (a.add (i * 3 + 2)) = some (.string ⟨l[i].s.toArray⟩) := by
    intro i hi
    obtain ⟨a, ha, hc⟩ := hrd.row (f := thV) (k := 3) (fun _ => rfl) (by decide) hi
    rw [show ((i : Nat) : Int).toNat = i by omega] at hc
    exact ⟨a, ha, fun w' K hU => step_run (run_sLoad (run_loadVarN (cs := thV l[i]) ag36 (by rw [sz36]; rfl) fun j u hj => by rw [add_add']; exact hc w' hU j u hj)), fun w' hU => hc w' hU 2 _ rfl⟩
  have rest : (i = 60 ∨ i = l.length) → flotillalaw01_EncCut_k1 (std Try.prog) (.slice B l.length cb) (.int .i64 cut) (.pointer (some ⟨g, 0, none⟩)) w2 fun r w' => r = .bool true ∧ Upd W w' [] := by
    intro hend
    have hT : l.take i = l.take 60 := by
      rcases hend with rfl | h
      · rfl
      · rw [List.take_of_length_le (by omega), List.take_of_length_le (by omega)]
    rw [hT] at hW2 hlen
    have hlT : (l.take 60).length = i := by rw [← hT, List.length_take]; omega
    unfold flotillalaw01_EncCut_k1
    refine st_call (Done_spec (by omega) hW2) ?_
    intro b w3 hN
    obtain ⟨A, c, rfl, hc, hbl, hbc⟩ := hN.rd
    have hrdb : Rd w3 1 (.slice A (allB (l.take 60)).length c) (allB (l.take 60)).length (bytesV (allB (l.take 60))) := ⟨A, c, rfl, hc, hbl, hbc⟩
    have hU3 := hW2.mid.trans hN.upd
    simp (disch := omega) only [PX, BX]
    refine ⟨fun _ => fin _ hU3, fun hne => ?_⟩
    have hpos : 0 < (allB (l.take 60)).length := by omega
    rw [wrapU64i cut, wrapU64, Nat.mod_eq_of_lt (show (allB (l.take 60)).length < 18446744073709551616 by omega)]
    generalize (cut % 18446744073709551616).toNat = cu
    rw [px_rem (by omega), show Int.tmod (cu : Int) ((allB (l.take 60)).length : Int) = ((cu % (allB (l.take 60)).length : Nat) : Int) from tmod_nat _ _]
    have hm := Nat.mod_lt cu hpos
    generalize cu % (allB (l.take 60)).length = m at *
    simp (disch := omega) only [PX, w64]
    rw [step_run (run_sliceTo (i := (m : Int)) u22 sz5 (by omega) (by omega))]
    have hrt := hrdb.take (i := m) (by omega)
    have hbt : (bytesV (allB (l.take 60))).take (m * 1) = bytesV ((allB (l.take 60)).take m) := by rw [Nat.mul_one]; simp [bytesV, List.map_take]
    have hlm' : ((allB (l.take 60)).take m).length = m := by rw [List.length_take]; omega
    rw [hbt] at hrt
    simp only [show ((m : Nat) : Int).toNat = m by omega]
    refine st_call (Read_spec w3 _ ((allB (l.take 60)).take m) (by omega) (by rw [hlm']; exact hrt)) ?_
    rintro _ w4 ⟨gr, hb, rfl, hR4, _⟩
    have hR4 := hR4.base hU3
    refine st_loop (fun vs w' => ∃ (k m : Nat), k ≤ i ∧ vs.getD 0 undef = .int .i64 k ∧ m < (allB ((l.take 60).drop k)).length ∧ RI W [] gr hb ((allB ((l.take 60).drop k)).take m) 0 w') (fun vs _ => i - (intOf (vs.getD 0 undef)).toNat) ⟨0, m, by omega, rfl, hm, hR4⟩ ?_
    clear hR4 hrt hbt hlm' hm hrdb hbc hbl
    rintro dv2 vs2 w5 - ⟨k, m, hk, e1, hm, hR5⟩
    have hki : k < i := by
      by_cases h : k < i
      · exact h
      · rw [List.drop_of_length_le (by omega)] at hm
        simp [allB] at hm
    have hkl : k < l.length := by omega
    obtain ⟨a, rfl, hld, _⟩ := ld k hkl
    simp (disch := omega) only [e1, PX, BX]
    refine ⟨fun hlt => ⟨fun h60 => ?_, fun h => absurd h (by omega)⟩, fun h => absurd h (by omega)⟩
    rw [hld w5 _ hR5.mid]
    refine st_call (taken_spec l[k] hR5) ?_
    have hd : (l.take 60).drop k = l[k] :: (l.take 60).drop (k + 1) := by
      rw [List.drop_eq_getElem_cons (by omega)]
      congr 1
      rw [List.getElem_take]
    rw [hd, show allB (l[k] :: (l.take 60).drop (k + 1)) = thB l[k] ++ allB ((l.take 60).drop (k + 1)) from rfl] at hm ⊢
    by_cases hw : (thB l[k]).length ≤ m
    · have htk : (thB l[k] ++ allB ((l.take 60).drop (k + 1))).take m = thB l[k] ++ (allB ((l.take 60).drop (k + 1))).take (m - (thB l[k]).length) := by
        rw [List.take_append, List.take_of_length_le hw]
      rw [htk, takenR_back l[k] _ (hall k hkl hki) (hl _ (List.getElem_mem hkl))]
      rintro _ w6 ⟨rfl, hR6⟩
      refine st_call (rErr_spec hR6) ?_
      rintro _ w7 ⟨rfl, rfl⟩
      simp (disch := omega) only [PX, BX, Bool.not_true, w64]
      refine ⟨fun h => absurd rfl h, fun _ => ⟨⟨k + 1, _, by omega, rfl, ?_, hR6⟩, ?_⟩⟩
      · rw [List.length_append] at hm; omega
      · simp only [List.getD_cons_zero, intOf]; omega
    · have h4 := takenR_cut l[k] (allB ((l.take 60).drop (k + 1))) m (hall k hkl hki) (by omega)
      rintro _ w6 ⟨rfl, hR6⟩
      rw [h4] at hR6
      refine st_call (rErr_spec hR6) ?_
      rintro _ w7 ⟨rfl, rfl⟩
      simp (disch := omega) only [PX, BX]
      refine ⟨fun _ => ?_, fun h => absurd (by decide) h⟩
      refine st_call (rErr_spec hR6) ?_
      rintro _ w8 ⟨rfl, rfl⟩
      simp (disch := omega) only [PX, BX]
      refine ⟨fun _ => ?_, fun h => absurd rfl h⟩
      refine st_call (rEnd_spec hR6) ?_
      rintro _ w9 ⟨rfl, rfl⟩
      rw [show ∀ x, endR x 4 = 4 from fun x => by unfold endR; rw [if_neg (by rintro ⟨h, _⟩; omega)]]
      simp (disch := omega) only [PX, BX]
      refine ⟨fun _ => ?_, fun h => absurd rfl h⟩
      refine st_call (rByte_spec hR6) ?_
      rintro _ w10 ⟨hR10, rfl⟩
      rw [show ∀ x, takeR x 4 1 = ([], x, 4) from fun x => by unfold takeR; rw [if_pos (by omega)]]
      rw [show leVal ([] : List UInt8) = 0 from rfl]
      simp (disch := omega) only [PX, BX]
      exact ⟨fun _ => fin _ hR10.mid, fun h => absurd rfl h⟩
  simp (disch := omega) only [e1, PX, BX]
  refine ⟨fun hlt => ⟨fun h60 => ?_, fun h60 => rest (by omega)⟩, fun hge => rest (by omega)⟩
  have hlt' : i < l.length := by omega
  obtain ⟨a, rfl, hld, hc2⟩ := ld i hlt'
  have k2 := hc2 w2 hW2.mid
  simp (disch := first | assumption | omega) only [PX, BX, LX, add_add', size_mk]
  refine ⟨fun _ => fin _ hW2.mid, fun hs => ?_⟩
  rw [hld w2 _ hW2.mid]
  refine st_call (lay_spec l[i] (by omega) hW2) ?_
  intro _ w3 hW3
  rw [← allB_succ hlt'] at hW3
  simp (disch := omega) only [PX, w64]
  refine ⟨⟨i + 1, by omega, by omega, rfl, hW3, fun j hj hji => ?_⟩, ?_⟩
  · by_cases h : j < i
    · exact hall j hj h
    · obtain rfl : j = i := by omega
      omega
  · simp only [List.getD_cons_zero, intOf]; omega
end Go.Proofs.Ytibacmekhkaipaa
