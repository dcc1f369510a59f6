/- ClockChance. -/
import Derived.Test.YtnghnolpohahpaaS13
namespace Go.Proofs.Ytnghnolpohahpaa
open Go Xf Go.RowKit
set_option linter.unusedVariables false
set_option linter.unusedSimpArgs false
set_option maxRecDepth 100000

/-- a variable that holds a ring -/
def VarR (w : World) (g : Nat) (fs : List Fr) (hand : Int) : Prop :=
  ∃ (A : Option Addr) (c : Nat), w.heap[g]? = some (.cells #[.slice A fs.length c, .int .i64 hand] 24 (0, 0)) ∧ RingAt w (.agg #[.slice A fs.length c, .int .i64 hand]) fs hand
theorem VarR.mono {w w' : World} {g : Nat} {fs : List Fr} {hand : Int} (h : VarR w g fs hand) (hU : Upd w w' []) : VarR w' g fs hand := by
  obtain ⟨A, c, h1, h2⟩ := h
  exact ⟨A, c, by rw [hU.keep g (lt_of_some h1) (by simp)]; exact h1, h2.mono hU⟩
theorem st_newvar {W w : World} {v : Value} {fs : List Fr} {hand : Int} {K : Value → World → Prop} (hU : Upd W w []) (hr : RingAt w v fs hand) (hk : ∀ g w', Upd W w' [] → Upd w w' [] → W.heap.size ≤ g → VarR w' g fs hand → K (.pointer (some ⟨g, 0, none⟩)) w') :
    (std Try.prog).step (sAlloc 24) w fun p u => (std Try.prog).step (sStore 24 p v) u fun _ u => K p u := by
  have hr' := hr
  obtain ⟨A, c, rfl, hm, hrd⟩ := hr'
  refine st_alloc ze24 (Upd.refl w []) (Owns.nil w) ?_
  intro g w1 hU1 hO1 hg
  refine st_ring hU1 hO1 0 rfl rfl rfl (.inr hg) ?_
  intro w2 hU2 hO2 _ _
  exact hk g w2 (hU.trans hU2) hU2 (Nat.le_trans hU.size hg) ⟨A, c, hO2.at_ 0 rfl, hr.mono hU2⟩
theorem ld_var {w : World} {g : Nat} {fs : List Fr} {hand : Int} {K : Value → World → Prop} (h : VarR w g fs hand) (hk : ∀ v, RingAt w v fs hand → K v w) : (std Try.prog).step (sLoad 24 (.pointer (some ⟨g, 0, none⟩))) w K := by
  obtain ⟨A, c, h1, h2⟩ := h
  rw [ld24 (cell_at h1) (cell_at h1)]
  exact hk _ h2

/-- a ring that a call gives, taken apart -/
theorem ringE_at {w w' : World} {r : Value} {R : Nat ⊕ (List Fr × Int)} (h : RingE w w' r R) : ∃ v e fs hand, r = .tuple #[v, .int .i64 (e : Nat)] ∧ Upd w w' [] ∧ RingAt w' v fs hand ∧ (R = .inl e ∨ (e = 0 ∧ R = .inr (fs, hand))) := by
  cases R with
  | inl e => obtain ⟨rfl, hU⟩ := h; exact ⟨_, e, [], 0, rfl, hU, ⟨none, 0, rfl, Nat.zero_le _, Rd.nil_ _ _⟩, .inl rfl⟩
  | inr p => obtain ⟨g, x, hN, rfl⟩ := h; exact ⟨_, 0, _, _, rfl, hN.2.2.2.1, hN.at_, .inr ⟨rfl, rfl⟩⟩
theorem nextE_at {w w' : World} {r : Value} {R : Nat ⊕ (Nat × List Fr × Nat)} (h : NextE w w' r R) : ∃ v e fs hand i, r = .tuple #[.int .i64 (i : Nat), v, .int .i64 (e : Nat)] ∧ Upd w w' [] ∧ RingAt w' v fs hand ∧ (R = .inl e ∨ (e = 0 ∧ ∃ h' : Nat, hand = h' ∧ R = .inr (i, fs, h'))) := by
  cases R with
  | inl e => obtain ⟨rfl, hU⟩ := h; exact ⟨_, e, [], 0, 0, rfl, hU, ⟨none, 0, rfl, Nat.zero_le _, Rd.nil_ _ _⟩, .inl rfl⟩
  | inr p => obtain ⟨g, x, hN, rfl⟩ := h; exact ⟨_, 0, _, _, _, rfl, hN.2.2.2.1, hN.at_, .inr ⟨rfl, _, rfl, rfl⟩⟩

/-- is there a frame, among the first, that is neither pinned nor used? -/
def freshN (fs : List Fr) (i : Nat) : Bool := (fs.take i).any fun f => f.pins == 0 && !f.used
theorem freshN_succ {fs : List Fr} {i : Nat} (hi : i < fs.length) : freshN fs (i + 1) = (freshN fs i || (fs[i].pins == 0 && !fs[i].used)) := by
  unfold freshN; rw [List.take_succ_eq_append_getElem hi, List.any_append]; simp
theorem freshN_at {fs : List Fr} (h : freshN fs fs.length = true) : ∃ (i : Nat) (hi : i < fs.length), fs[i].pins = 0 ∧ fs[i].used = false := by
  unfold freshN at h
  rw [List.take_length, List.any_eq_true] at h
  obtain ⟨f, hf, hx⟩ := h
  obtain ⟨i, hi, rfl⟩ := List.getElem_of_mem hf
  simp at hx
  exact ⟨i, hi, hx.1, hx.2⟩

theorem ClockChance_spec (W : World) (n page : Int) (v : Value) (l : List Ask) (hr : RdS W askV 3 v l) (hl : ∀ o ∈ l, in64 o.kind ∧ in64 o.page ∧ in64 o.n) :
    CallsR Try.prog 8 #[.int .i64 n, v, .int .i64 page] W fun r w' => r = .bool true ∧ Upd W w' [] := by
  apply flotillalaw14_ClockChance_sound
  unfold flotillalaw14_ClockChance_x
  have fin : ∀ w', Upd W w' [] → (std Try.prog).calls 10 #[] w' fun r w_1 => r = .bool true ∧ Upd W w_1 [] := fun w' hU => st_call (lives_spec w') fun v w4 h => ⟨h.1, hU.trans h.2⟩
  refine st_call (made_spec W n v l hr hl) ?_
  rintro r w1 ⟨fs, hand, hG, hr1, hU1⟩
  refine st_newvar hU1 hr1 fun g7 w2 hU2 _ hg7 hv7 => ?_
  refine ld_var hv7 fun v1 hr2 => ?_
  refine st_call (Touch_spec w2 v1 fs hand page hr2) fun r w3 hE => ?_
  obtain ⟨v3, e, fs1, hand1, rfl, hU3, hr3, hres⟩ := ringE_at hE
  have hv7 := hv7.mono hU3
  have hU3 := hU2.trans hU3
  rw [px_ext20, px_ext21]
  refine st_newvar hU3 hr3 fun g8 w4 hU4 hU34 hg8 hv8 => ?_
  have hv7 := hv7.mono hU34
  simp (disch := first | assumption | omega) only [PX, BX]
  rcases hres with hx | ⟨rfl, hx⟩
  · have he : e ≠ 0 := (good_touch fs hand page).1 e hx
    refine ⟨fun _ => ?_, fun h => absurd h (by omega)⟩
    refine ld_var hv7 fun v4 hr4 => ?_
    refine st_call (At_spec w4 v4 fs hand page hr4) ?_
    rintro _ w5 ⟨rfl, hU5⟩
    have hU5 := hU4.trans hU5
    simp (disch := first | assumption | omega) only [PX, BX]
    have := touch_err hx
    rw [show (decide (atR fs hand page < 0) == decide ((e : Int) ≠ 0)) = true by rw [decide_eq_true this, decide_eq_true (by omega)]; rfl, bool_true]
    exact fin _ hU5
  refine ⟨fun h => absurd rfl h, fun _ => ?_⟩
  obtain ⟨hmay, hmay1, hlen1, rfl, i, hi, y, hpg, hp0, hat, hy, rfl⟩ := change_may touch_ok hx
  injection hy with hy
  subst hy
  generalize hfs1 : fs.set i ⟨fs[i].page, true, fs[i].pins⟩ = fs1 at *
  have hi1 : i < fs1.length := by omega
  have htouched : fs1[i].page = page ∧ fs1[i].used = true := by
    subst hfs1
    simp [hpg]
  have hn16 := hmay1.2.1
  refine st_loop (fun vs w' => ∃ k : Nat, k ≤ fs1.length ∧ vs.getD 0 undef = .bool (freshN fs1 k) ∧ vs.getD 1 undef = .int .i64 k ∧ w' = w4) (fun vs _ => fs1.length - (intOf (vs.getD 1 undef)).toNat) ⟨0, by omega, rfl, rfl, rfl⟩ ?_
  rintro dv vs w5 - ⟨k, hk, e0, e1, rfl⟩
  obtain ⟨A, c, hc8, hr8⟩ := hv8
  have c0 : w5.cell? ⟨g8, 0, none⟩ = some (.slice A fs1.length c) := cell_at hc8
  simp (disch := first | assumption | omega) only [PX, BX, LX, e0, e1]
  refine ⟨fun hlt => ?_, fun hge => ?_⟩
  · have hlt' : k < fs1.length := by omega
    obtain ⟨A', c', he, _, hrd⟩ := hr8
    simp at he
    obtain ⟨rfl, rfl⟩ := he
    obtain ⟨a, rfl, p0, p1, p2⟩ := fr_at hrd hlt'
    have p1 := p1 w5 (Upd.refl _ _)
    have p2 := p2 w5 (Upd.refl _ _)
    simp (disch := first | assumption | omega) only [PX, BX, LX, idx22, add_add', w64, e1]
    rw [bool_var]
    have hdec : fs1.length - ((k : Int) + 1).toNat < fs1.length - (k : Int).toNat := by omega
    refine ⟨fun hf => ⟨⟨k + 1, by omega, ?_, rfl, trivial⟩, hdec⟩, fun hf => ⟨fun hp => ⟨⟨k + 1, by omega, ?_, rfl, trivial⟩, hdec⟩, fun hp => ⟨⟨k + 1, by omega, ?_, rfl, trivial⟩, hdec⟩⟩⟩
    · rw [freshN_succ hlt', hf]; rfl
    · rw [freshN_succ hlt', hf, hp]; simp
    · rw [freshN_succ hlt', hf]; simp [hp]
  obtain rfl : k = fs1.length := by omega
  have hv8 : VarR w5 g8 fs1 hand1 := ⟨A, c, hc8, hr8⟩
  unfold flotillalaw14_ClockChance_k1
  refine ld_var hv8 fun v5 hr5 => ?_
  refine st_call (Next_spec w5 v5 fs1 hand1 hr5) fun r w6 hE => ?_
  obtain ⟨v6, e, fs2, h2, j, rfl, hU6, hr6, hres⟩ := nextE_at hE
  have hv8 := hv8.mono hU6
  have hU6 := hU4.trans hU6
  rw [px_ext30, px_ext31, px_ext32]
  refine st_newvar hU6 hr6 fun g13 w7 hU7 hU67 hg13 hv13 => ?_
  have hv8 := hv8.mono hU67
  simp (disch := first | assumption | omega) only [PX, BX, flotillalaw14_ClockChance_k2]
  rcases hres with hx | ⟨rfl, h', rfl, hx⟩
  · obtain ⟨rfl, hall⟩ := next_none hmay1 hx
    refine ⟨fun _ => ⟨fun _ => ?_, fun h => absurd rfl h⟩, fun h => absurd (by decide) h⟩
    refine ld_var hv8 fun v7 hr7 => ?_
    refine st_call (loose_spec w7 _ fs1 hand1 hr7) ?_
    rintro _ w8 ⟨rfl, hU8⟩
    rw [looseN_zero hall]
    simp (disch := first | assumption | omega) only [PX, BX]
    exact ⟨fun _ => fin _ (hU7.trans hU8), fun h => absurd rfl h⟩
  obtain ⟨_, hmay2, hle, hh', hj2, htold⟩ := next_some hx
  have hl' := hle.1
  have hj1 : j < fs1.length := by omega
  obtain ⟨y1, y2, y3⟩ := hle.2 j hj1 hj2
  obtain ⟨A, c, hc8, hr8⟩ := hv8
  obtain ⟨A', c', he, _, hrd⟩ := hr8
  simp at he
  obtain ⟨rfl, rfl⟩ := he
  have c0 : w7.cell? ⟨g8, 0, none⟩ = some (.slice A fs1.length c) := cell_at hc8
  obtain ⟨a, rfl, p0, _, _⟩ := fr_at hrd hj1
  have p0 := p0 w7 (Upd.refl _ _)
  simp (disch := first | assumption | omega) only [PX, BX, LX, idx22, add_add']
  have last : flotillalaw14_ClockChance_k3 (std Try.prog) (.pointer (some ⟨g13, 0, none⟩)) (.int .i64 fs1[j].page) w7 fun r w' => r = .bool true ∧ Upd W w' [] := by
    unfold flotillalaw14_ClockChance_k3
    simp (disch := first | assumption | omega) only [PX, BX, flotillalaw14_ClockChance_k4]
    refine ⟨fun _ => fin _ hU7, fun hp0 => ?_⟩
    rw [← y1] at hp0 ⊢
    have hp0 : 0 ≤ fs2[j].page := by omega
    have hpin : ¬ 0 < fs2[j].pins := by
      rcases htold with h | h
      · omega
      · exact h.1
    refine ld_var hv13 fun v8 hr8 => ?_
    refine st_call (Drop_spec w7 v8 fs2 _ _ hr8) fun r w8 hE => ?_
    rw [drop_told hmay2 hj2 hp0 hpin] at hE
    obtain ⟨v9, e, fs3, h3, rfl, hU8, hr9, hres⟩ := ringE_at hE
    obtain ⟨rfl, hx3⟩ : e = 0 ∧ (Sum.inr (fs2.set j ⟨-1, false, 0⟩, (h' : Int)) : Nat ⊕ (List Fr × Int)) = .inr (fs3, h3) := by
      rcases hres with h | h
      · cases h
      · exact h
    injection hx3 with hx3
    injection hx3 with ha hb
    subst ha hb
    rw [px_ext20, px_ext21]
    refine st_newvar (hU7.trans hU8) hr9 fun g16 w9 hU9 _ hg16 hv16 => ?_
    simp (disch := first | assumption | omega) only [PX, BX]
    refine ⟨fun h => absurd rfl h, fun _ => ?_⟩
    refine ld_var hv16 fun v10 hr10 => ?_
    refine st_call (At_spec w9 v10 _ _ _ hr10) ?_
    rintro _ w10 ⟨rfl, hU10⟩
    have hv16 := hv16.mono hU10
    have hU10 := hU9.trans hU10
    rw [drop_gone hmay2 hj2 hp0]
    simp (disch := first | assumption | omega) only [PX, BX]
    refine ⟨fun h => absurd rfl h, fun _ => ?_⟩
    obtain ⟨fs4, hput, hmay4, hat4⟩ := put_again hmay2 hj2 hp0
    refine ld_var hv16 fun v11 hr11 => ?_
    refine st_call (Put_spec w10 v11 _ _ _ hr11) fun r w11 hE => ?_
    rw [hput] at hE
    obtain ⟨v12, e, fs5, h5, rfl, hU11, hr12, hres⟩ := ringE_at hE
    obtain ⟨rfl, hx5⟩ : e = 0 ∧ (Sum.inr (fs4, (h' : Int)) : Nat ⊕ (List Fr × Int)) = .inr (fs5, h5) := by
      rcases hres with h | h
      · cases h
      · exact h
    injection hx5 with hx5
    injection hx5 with ha hb
    subst ha hb
    rw [px_ext20, px_ext21]
    refine st_newvar (hU10.trans hU11) hr12 fun g18 w12 hU12 _ hg18 hv18 => ?_
    simp (disch := first | assumption | omega) only [PX, BX]
    refine ⟨fun _ => ?_, fun h => absurd rfl h⟩
    refine ld_var hv18 fun v13 hr13 => ?_
    refine st_call (At_spec w12 v13 _ _ _ hr13) ?_
    rintro _ w13 ⟨rfl, hU13⟩
    simp (disch := first | assumption | omega) only [PX, BX]
    exact ⟨fun _ => fin _ (hU12.trans hU13), fun h => absurd hat4 h⟩
  refine ⟨fun h => absurd rfl h, fun _ => ⟨fun h => absurd h (by omega), fun _ => ⟨fun h => absurd h (by omega), fun _ => ?_⟩⟩⟩
  rw [bool_var]
  refine ⟨fun hf => ⟨fun he => ?_, fun _ => last⟩, fun _ => last⟩
  exfalso
  obtain ⟨q, hq, hqp, hqu⟩ := freshN_at hf
  obtain ⟨_, hjx⟩ := next_first hx hq hqp hqu
  have hij : j = i := by
    by_cases hij : i = j
    · exact hij.symm
    · exact absurd (by rw [he, htouched.1]) (may_inj hmay1 hi1 hj1 hij (by omega))
  subst hij
  rcases hjx with h | h
  · omega
  · rw [htouched.2] at h; cases h

end Go.Proofs.Ytnghnolpohahpaa
