/- EncTakes. -/
import Derived.Test.YtibacmekhkaipaaS7
namespace Go.Proofs.Ytibacmekhkaipaa
open Go Xf Go.RowKit
set_option linter.unusedVariables false
set_option linter.unusedSimpArgs false
set_option maxRecDepth 100000

structure AskE where
  kind : Int
  most : Int
def aV (o : AskE) : List Value := [.int .i64 o.kind, .int .i64 o.most]
theorem aV_of (row : List Value) (h : RowOk [.int .i64, .int .i64] row) : ∃ o, row = aV o ∧ True := by
  obtain ⟨hl, hk⟩ := h
  obtain ⟨_, e0, n0, rfl, w0⟩ := hk 0 _ rfl
  obtain ⟨_, e1, n1, rfl, w1⟩ := hk 1 _ rfl
  refine ⟨⟨n0, n1⟩, ?_, trivial⟩
  match row, hl with
  | [a, b], _ => simp at e0 e1; subst e0 e1; rfl

/-- one of the blocks beside a reader, taken in hand -/
theorem RI.focus {W w : World} {F hb : List (Nat × Obj)} {g e : Nat} {l : List UInt8} {p : Nat × Obj} (h : RI W (p :: F) g hb l e w) : ∃ rest, Owns w (p :: rest) ∧ ∀ w' o', Owns w' ((p.1, o') :: rest) → Upd W w' [] → RI W ((p.1, o') :: F) g hb l e w' := by
  obtain ⟨v, h1, h2, h3, h4⟩ := h
  have pm : ∀ o : Obj, (((g, Obj.cells #[v, .int .i64 (e : Nat)] 67 (0, 0)) :: (hb ++ ((p.1, o) :: F))).Perm ((p.1, o) :: ((g, Obj.cells #[v, .int .i64 (e : Nat)] 67 (0, 0)) :: (hb ++ F)))) := fun o =>
    (List.Perm.cons _ List.perm_middle).trans (List.Perm.swap _ _ _)
  refine ⟨(g, .cells #[v, .int .i64 (e : Nat)] 67 (0, 0)) :: (hb ++ F), h2.perm (pm p.2), fun w' o' hO hU => ⟨v, h1, hO.perm (pm o').symm, hU, h4⟩⟩

theorem rByte_nil (w : World) : CallsR Try.prog 9 #[.pointer none] w fun r w' => r = .int .u8 0 ∧ w' = w := by
  apply enc_Reader_Byte_sound
  unfold enc_Reader_Byte_x
  refine st_call (rnum_nil _ w) ?_
  rintro _ w1 ⟨rfl, rfl⟩
  simp only [PX]
  exact ⟨by rw [show IntKind.wrap .u8 0 = 0 by decide], trivial⟩
theorem rTwo_nil (w : World) : CallsR Try.prog 22 #[.pointer none] w fun r w' => r = .int .u16 0 ∧ w' = w := by
  apply enc_Reader_Two_sound
  unfold enc_Reader_Two_x
  refine st_call (rnum_nil _ w) ?_
  rintro _ w1 ⟨rfl, rfl⟩
  simp only [PX]
  exact ⟨by rw [show IntKind.wrap .u16 0 = 0 by decide], trivial⟩
theorem rFour_nil (w : World) : CallsR Try.prog 23 #[.pointer none] w fun r w' => r = .int .u32 0 ∧ w' = w := by
  apply enc_Reader_Four_sound
  unfold enc_Reader_Four_x
  refine st_call (rnum_nil _ w) ?_
  rintro _ w1 ⟨rfl, rfl⟩
  simp only [PX]
  exact ⟨by rw [show IntKind.wrap .u32 0 = 0 by decide], trivial⟩
theorem rEight_nil (w : World) : CallsR Try.prog 24 #[.pointer none] w fun r w' => r = .int .u64 0 ∧ w' = w := by
  apply enc_Reader_Eight_sound
  unfold enc_Reader_Eight_x
  exact st_call (rnum_nil _ w) fun _ _ h => h

def TakesI (W : World) (B : List UInt8) (gr g7 : Nat) (hb : List (Nat × Obj)) (n : Nat) (vs : List Value) (w : World) : Prop :=
  ∃ i a e : Nat, i ≤ n ∧ i ≤ 60 ∧ vs.getD 0 undef = .int .i64 i ∧ a ≤ B.length ∧ RI W [(g7, qO B a e)] gr hb (B.drop a) e w

theorem takes_k4 {W w : World} {B : List UInt8} {gr g7 : Nat} {hb : List (Nat × Obj)} {n i a e : Nat} {vs : List Value} (hB : B.length ≤ 140737488355000) (hi : i < n) (hi6 : i < 60) (e0 : vs.getD 0 undef = .int .i64 i) (ha : a ≤ B.length) (h : RI W [(g7, qO B a e)] gr hb (B.drop a) e w) :
    flotillalaw01_EncTakes_k4 (std Try.prog) (.pointer (some ⟨gr, 0, none⟩)) (.pointer (some ⟨g7, 0, none⟩)) vs (fun vs' w' => TakesI W B gr g7 hb n vs' w' ∧ n - (intOf (vs'.getD 0 undef)).toNat < n - (intOf (.int .i64 (i : Nat))).toNat) (.bool true) w fun r w' => r = .bool true ∧ Upd W w' [] := by
  unfold flotillalaw01_EncTakes_k4
  have hR1 := h.ext (Upd.drew w [])
  let S : World → Prop := fun w' => w'.heap[g7]? = some (qO B a e)
  have hk : ∀ {w'}, RI W [(g7, qO B a e)] gr hb (B.drop a) e w' → S w' := fun h => h.kept.at_ 0 rfl
  have hS := hk hR1
  have hne : ∃ w', S w' := ⟨_, hS⟩
  have l48 : ∀ w', S w' → (sLoad 48 (.pointer (some ⟨g7, 0, none⟩))).run Try.prog w' = .ok (.value (qV B a e)) w' := fun w' h => run_sLoad (run_loadVarN (cs := [.string ⟨B.toArray⟩, .int .i64 (a : Nat), .int .i64 (e : Nat)]) ag48 (by rw [sz48]; rfl) (cells_read h))
  have c2 : ∀ w', S w' → w'.cell? ⟨g7, 2, none⟩ = some (.int .i64 (e : Nat)) := fun w' h => cell_at h
  refine st_draw S hS ?_
  simp (disch := first | assumption | omega) only [SX, BX, Bool.not_true]
  rw [stepS_run hne l48]
  refine st_call (rLeft_spec hR1) ?_
  rintro _ w1 ⟨rfl, rfl⟩
  refine st_same hS ?_
  refine st_call (refLeft_spec _ B a e ha (by unfold maxLen; omega)) ?_
  rintro _ w2 ⟨rfl, hU2⟩
  have hR2 := hR1.ext hU2
  refine st_keepT S (hk hR2) ?_
  simp (disch := first | assumption | omega) only [SX, SLX, BX, add_mk, Nat.zero_add]
  refine ⟨fun h => absurd rfl h, fun _ => ?_⟩
  refine st_call (rErr_spec hR2) ?_
  rintro _ w3 ⟨rfl, rfl⟩
  refine st_same (hk hR2) ?_
  simp (disch := first | assumption | omega) only [SX, SLX, BX]
  refine ⟨fun h => absurd rfl h, fun _ => ?_⟩
  rw [stepS_run hne l48]
  refine st_call (rEnd_spec hR2) ?_
  rintro _ w4 ⟨rfl, rfl⟩
  refine st_same (hk hR2) ?_
  refine st_call (refEnd_spec _ B a e ha (by unfold maxLen; omega)) ?_
  rintro _ w5 ⟨rfl, hU5⟩
  have hR5 := hR2.ext hU5
  refine st_keepT S (hk hR5) ?_
  simp (disch := first | assumption | omega) only [SX, BX, PX, flotillalaw01_EncTakes_k3, e0, w64]
  refine ⟨fun h => absurd rfl h, fun _ => ⟨⟨i + 1, a, e, by omega, by omega, rfl, ha, hR5⟩, ?_⟩⟩
  simp only [List.getD_cons_zero, intOf]; omega

theorem EncTakes_spec (W : World) (v v' : Value) (B : List UInt8) (l : List AskE) (hB : B.length ≤ 140737488351232) (hrB : Rd W 1 v B.length (bytesV B)) (hr : RdS W aV 2 v' l) :
    CallsR Try.prog 7 #[v, v'] W fun r w' => r = .bool true ∧ Upd W w' [] := by
  apply flotillalaw01_EncTakes_sound
  unfold flotillalaw01_EncTakes_x
  have fin : ∀ w', Upd W w' [] → (std Try.prog).calls 10 #[] w' fun r w_1 => r = .bool true ∧ Upd W w_1 [] := fun w' hU => st_call (lives_spec w') fun v w4 h => ⟨h.1, hU.trans h.2⟩
  obtain ⟨C, cc, rfl, hlm, hrd⟩ := hr
  refine st_call (rFail_nil _ W) ?_
  rintro _ w0 rfl
  refine st_call (Read_spec w0 v B (by omega) hrB) ?_
  rintro _ w1 ⟨gr, hb, rfl, hR1, _⟩
  rw [step_run (run_str u22 u5 u9 (hrB.mono hR1.mid))]
  rw [step_run (show (sBuild 48 [(0, .string ⟨B.toArray⟩)]).run Try.prog w1 = .ok (.value (qV B 0 0)) w1 by kernel_rfl)]
  refine st_alloc ze48 (Upd.refl w1 []) (Owns.nil w1) ?_
  intro g7 w2 hU2 hO2 hg7
  refine st_q hU2 hO2 0 rfl hg7 ?_
  intro w3 hU3 hO3 h3
  have hR3 := hR1.push (p := (g7, qO B 0 0)) hU3 h3 hg7
  have hg70 : w0.heap.size ≤ g7 := Nat.le_trans hR1.mid.size hg7
  refine st_loop (TakesI w0 B gr g7 hb l.length) (fun vs _ => l.length - (intOf (vs.getD 0 undef)).toNat) ⟨0, 0, 0, by omega, by omega, rfl, by omega, hR3⟩ ?_
  clear hR3 h3 hO3 hU3 hO2 hU2 hR1
  rintro dv vs w4 - ⟨i, a, e, hi, hi6, e0, ha, hR⟩
  have done : flotillalaw01_EncTakes_k1 (std Try.prog) w4 fun r w' => r = .bool true ∧ Upd w0 w' [] := by
    have hU4 := hR.mid
    unfold flotillalaw01_EncTakes_k1
    refine st_call (rByte_nil w4) ?_
    rintro _ w5 ⟨rfl, rfl⟩
    simp (disch := omega) only [PX, BX]
    refine ⟨fun _ => ?_, fun h => absurd (by trivial) h⟩
    refine st_call (rTwo_nil w5) ?_
    rintro _ w6 ⟨rfl, rfl⟩
    simp (disch := omega) only [PX, BX]
    refine ⟨fun _ => ?_, fun h => absurd (by trivial) h⟩
    refine st_call (rFour_nil w6) ?_
    rintro _ w7 ⟨rfl, rfl⟩
    simp (disch := omega) only [PX, BX]
    refine ⟨fun _ => ?_, fun h => absurd (by trivial) h⟩
    refine st_call (rEight_nil w7) ?_
    rintro _ w8 ⟨rfl, rfl⟩
    simp (disch := omega) only [PX, BX]
    refine ⟨fun _ => ?_, fun h => absurd (by trivial) h⟩
    refine st_call (rText_nil _ w8) ?_
    rintro _ w9 ⟨rfl, rfl⟩
    simp (disch := omega) only [PX, BX]
    refine ⟨fun _ => ?_, fun h => absurd (by trivial) h⟩
    refine st_call (rLeft_nil w9) ?_
    rintro _ w10 ⟨rfl, rfl⟩
    simp (disch := omega) only [PX, BX]
    refine ⟨fun _ => ?_, fun h => absurd (by trivial) h⟩
    refine st_call (rErr_nil w10) ?_
    rintro _ w11 ⟨rfl, rfl⟩
    simp (disch := omega) only [PX, BX]
    refine ⟨fun _ => ?_, fun h => absurd (by trivial) h⟩
    refine st_call (rEnd_nil w11) ?_
    rintro _ w12 ⟨rfl, rfl⟩
    simp (disch := omega) only [PX, BX]
    exact ⟨fun _ => fin _ hU4, fun h => absurd (by trivial) h⟩
  simp (disch := omega) only [e0, PX, BX]
  refine ⟨fun hlt => ⟨fun h60 => ?_, fun _ => done⟩, fun _ => done⟩
  clear done
  have hlt' : i < l.length := by omega
  have hi60 : i < 60 := by omega
  obtain ⟨aa, rfl, hc⟩ := hrd.row (f := aV) (k := 2) (fun _ => rfl) (by decide) hlt'
  rw [show ((i : Nat) : Int).toNat = i by omega] at hc
  have k0 : w4.cell? (aa.add (i * 2)) = some (.int .i64 l[i].kind) := hc w4 hR.mid 0 _ rfl
  have k1 : ∀ w', Upd w0 w' [] → w'.cell? (aa.add (i * 2 + 1)) = some (.int .i64 l[i].most) := fun w' hU => hc w' hU 1 _ rfl
  simp (disch := first | assumption | omega) only [PX, LX]
  rw [wrapU64i, show Int.tmod (((l[i].kind % 18446744073709551616).toNat : Nat) : Int) 6 = (((l[i].kind % 18446744073709551616).toNat % 6 : Nat) : Int) from tmod_nat _ 6]
  generalize (l[i].kind % 18446744073709551616).toNat % 6 = kd
  have hq := hR.kept.at_ 0 rfl
  -- a number is taken off by both
  have num : ∀ (n : Nat) (w5 : World), n ≤ 8 → Upd w4 w5 [] → ∀ (K : Value → World → Prop), (∀ w6, RI w0 [(g7, qO B (takeQ B a e n).1 (takeQ B a e n).2)] gr hb (B.drop a) e w6 → K (.int .u64 (leVal (takeR (B.drop a) e n).1 : Nat)) w6) →
      (std Try.prog).calls 21 #[qV B a e, .int .i64 (n : Nat)] w5 fun v53 u => (std Try.prog).step (sExtract v53 0) u fun v54 u => (std Try.prog).step (sExtract v53 1) u fun v55 u => (std Try.prog).step (sStore 48 (.pointer (some ⟨g7, 0, none⟩)) v54) u fun _ u => K v55 u := by
    intro n w5 hn hU5 K hK
    refine st_call (refTake_spec w5 B a e n ha (by omega) hn) ?_
    rintro _ w6 ⟨rfl, hU6⟩
    rw [px_ext20, px_ext21]
    have hR6 := (hR.ext hU5).ext hU6
    obtain ⟨rest, hO, back⟩ := hR6.focus
    refine st_storeN (vs := [.string ⟨B.toArray⟩, .int .i64 ((takeQ B a e n).1 : Nat), .int .i64 ((takeQ B a e n).2 : Nat)]) (by rw [sz48]; rfl) hR6.mid hO 0 rfl (by simp) (by intro u hu; simp at hu; rcases hu with rfl | rfl | rfl <;> rfl) (.inr ?_) ?_
    · exact hg70
    intro w7 hU7 hO7
    exact hK w7 (back w7 _ hO7 hU7)
  have step : ∀ (n : Nat) {w6 : World}, RI w0 [(g7, qO B (takeQ B a e n).1 (takeQ B a e n).2)] gr hb (takeR (B.drop a) e n).2.1 (takeR (B.drop a) e n).2.2 w6 → RI w0 [(g7, qO B (takeQ B a e n).1 (takeQ B a e n).2)] gr hb (B.drop (takeQ B a e n).1) (takeQ B a e n).2 w6 := by
    intro n w6 h
    rw [takeQ_eq] at h
    exact h
  simp (disch := first | assumption | omega) only [PX, BX]
  have big : ∀ n, n ≤ 8 → leVal (takeR (B.drop a) e n).1 < 18446744073709551616 := by
    intro n hn
    have h1 := leVal_lt (takeR (B.drop a) e n).1
    have h2 := takeR_len (B.drop a) e n
    have h3 : 256 ^ (takeR (B.drop a) e n).1.length ≤ 256 ^ 8 := Nat.pow_le_pow_right (by omega) (by omega)
    have h4 : (256 ^ 8 : Nat) = 18446744073709551616 := by decide
    omega
  refine ⟨fun _ => ?_, fun _ => ⟨fun _ => ?_, fun _ => ⟨fun _ => ?_, fun _ => ⟨fun _ => ?_, fun _ => ⟨fun _ => ?_, fun _ => ?_⟩⟩⟩⟩⟩
  · rw [ld48 hq]
    refine num 1 w4 (by omega) (Upd.refl _ _) _ fun w6 hR6 => ?_
    refine st_call (rByte_spec hR6) ?_
    rintro _ w7 ⟨hR7, rfl⟩
    have hb := big 1 (by omega)
    simp only [PX, wrapU64, Nat.mod_eq_of_lt hb, decide_true]
    exact takes_k4 (by omega) hlt' hi60 e0 (takeQ_le ha) (step 1 hR7)
  · rw [ld48 hq]
    refine num 2 w4 (by omega) (Upd.refl _ _) _ fun w6 hR6 => ?_
    refine st_call (rTwo_spec hR6) ?_
    rintro _ w7 ⟨hR7, rfl⟩
    have hb := big 2 (by omega)
    simp only [PX, wrapU64, Nat.mod_eq_of_lt hb, decide_true]
    exact takes_k4 (by omega) hlt' hi60 e0 (takeQ_le ha) (step 2 hR7)
  · rw [ld48 hq]
    refine num 4 w4 (by omega) (Upd.refl _ _) _ fun w6 hR6 => ?_
    refine st_call (rFour_spec hR6) ?_
    rintro _ w7 ⟨hR7, rfl⟩
    have hb := big 4 (by omega)
    simp only [PX, wrapU64, Nat.mod_eq_of_lt hb, decide_true]
    exact takes_k4 (by omega) hlt' hi60 e0 (takeQ_le ha) (step 4 hR7)
  · rw [ld48 hq]
    refine num 8 w4 (by omega) (Upd.refl _ _) _ fun w6 hR6 => ?_
    refine st_call (rEight_spec hR6) ?_
    rintro _ w7 ⟨hR7, rfl⟩
    simp only [PX, decide_true]
    exact takes_k4 (by omega) hlt' hi60 e0 (takeQ_le ha) (step 8 hR7)
  · let S : World → Prop := fun w' => w'.heap[g7]? = some (qO B a e) ∧ Upd w0 w' []
    have hR1 := hR.ext (Upd.drew w4 [])
    have hS : S w4.drew := ⟨hR1.kept.at_ 0 rfl, hR1.mid⟩
    have hne : ∃ w', S w' := ⟨_, hS⟩
    have k1' : ∀ w', S w' → w'.cell? (aa.add (i * 2 + 1)) = some (.int .i64 l[i].most) := fun w' h => k1 w' h.2
    refine st_draw S hS ?_
    rw [stepS_run hne fun w' h => run_sLoad (run_loadVarN (cs := [.string ⟨B.toArray⟩, .int .i64 (a : Nat), .int .i64 (e : Nat)]) ag48 (by rw [sz48]; rfl) (cells_read h.1))]
    simp (disch := first | assumption | omega) only [SX, SLX, add_add']
    refine st_call (refTakeText_spec _ B a e l[i].most ha (by omega)) ?_
    rintro _ w6 ⟨rfl, hU6⟩
    have hR6 := hR1.ext hU6
    refine st_keepT (fun _ => True) trivial ?_
    have hneT : ∃ w' : World, (fun _ => True) w' := ⟨w4, trivial⟩
    rw [sx_ext20 hneT, sx_ext21 hneT]
    obtain ⟨rest, hO, back⟩ := hR6.focus
    refine st_storeN (vs := [.string ⟨B.toArray⟩, .int .i64 ((textQ B a e l[i].most).1 : Nat), .int .i64 ((textQ B a e l[i].most).2 : Nat)]) (by rw [sz48]; rfl) hR6.mid hO 0 rfl (by simp) (by intro u hu; simp at hu; rcases hu with rfl | rfl | rfl <;> rfl) (.inr hg70) ?_
    intro w7 hU7 hO7
    have hR7 : RI w0 [(g7, qO B (textQ B a e l[i].most).1 (textQ B a e l[i].most).2)] gr hb (B.drop a) e w7 := back w7 _ hO7 hU7
    refine st_same trivial ?_
    have k1' := k1 w7 hU7
    simp (disch := first | assumption | omega) only [PX, LX, add_add']
    refine st_call (rText_spec l[i].most hR7) ?_
    rintro _ w8 ⟨hR8, rfl⟩
    rw [textQ_eq] at hR8
    simp only [PX, decide_true]
    exact takes_k4 (by omega) hlt' hi60 e0 (textQ_le ha) hR8
  · have k1' := k1 w4 hR.mid
    have same : flotillalaw01_EncTakes_k6 (std Try.prog) (.pointer (some ⟨gr, 0, none⟩)) (.pointer (some ⟨g7, 0, none⟩)) vs (fun vs' w' => TakesI w0 B gr g7 hb l.length vs' w' ∧ l.length - (intOf (vs'.getD 0 undef)).toNat < l.length - (intOf (.int .i64 (i : Nat))).toNat) w4 fun r w' => r = .bool true ∧ Upd w0 w' [] :=
      takes_k4 (by omega) hlt' hi60 e0 ha hR
    simp (disch := first | assumption | omega) only [PX, BX, LX, add_add']
    refine ⟨fun _ => ?_, fun _ => same⟩
    refine st_call (rFail_spec 7 hR) ?_
    intro _ w6 hR6
    have c2 : w6.cell? ⟨g7, 2, none⟩ = some (.int .i64 (e : Nat)) := cell_at (hR6.kept.at_ 0 rfl)
    simp (disch := first | assumption | omega) only [PX, BX, LX, add_mk, Nat.zero_add]
    refine ⟨fun he => ?_, fun he => ?_⟩
    · rw [if_pos (by omega)] at hR6
      obtain ⟨rest, hO, back⟩ := hR6.focus
      refine st_storeB sz41 rfl hR6.mid hO 0 rfl (by simp) (.inr (Nat.zero_le _)) (.inr hg70) ?_
      intro w7 hU7 hO7
      have hR7 : RI w0 [(g7, qO B a 7)] gr hb (B.drop a) 7 w7 := back w7 _ hO7 hU7
      exact takes_k4 (by omega) hlt' hi60 e0 ha hR7
    · rw [if_neg (by omega)] at hR6
      exact takes_k4 (by omega) hlt' hi60 e0 ha hR6
end Go.Proofs.Ytibacmekhkaipaa
