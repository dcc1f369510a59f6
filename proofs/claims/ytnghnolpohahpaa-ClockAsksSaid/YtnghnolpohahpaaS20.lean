/- The document's Next; copies. -/
import Derived.Test.YtnghnolpohahpaaS19
namespace Go.Proofs.Ytnghnolpohahpaa
open Go Xf Go.RowKit
set_option linter.unusedVariables false
set_option linter.unusedSimpArgs false
set_option maxRecDepth 100000

/-- the least of the numbers with which an invariant holds -/
theorem least_of {P : Nat → Prop} : ∀ n, P n → ∃ k, P k ∧ ∀ j, P j → k ≤ j := by
  intro n
  induction n using Nat.strongRecOn with
  | ind n ih =>
    intro h
    by_cases hc : ∃ j, j < n ∧ P j
    · obtain ⟨j, hj, hp⟩ := hc
      exact ih j hj hp
    · exact ⟨n, h, fun j hj => by
        by_cases hl : j < n
        · exact absurd ⟨j, hl, hj⟩ hc
        · omega⟩
open Classical in
noncomputable def minK (I : Nat → List Value → World → Prop) (vs : List Value) (w : World) : Nat := if h : ∃ k, I k vs w then Classical.choose (least_of (P := fun k => I k vs w) _ (Classical.choose_spec h)) else 0
theorem minK_spec {I : Nat → List Value → World → Prop} {vs : List Value} {w : World} (h : ∃ k, I k vs w) : I (minK I vs w) vs w ∧ ∀ j, I j vs w → minK I vs w ≤ j := by
  unfold minK
  rw [dif_pos h]
  exact Classical.choose_spec (least_of (P := fun k => I k vs w) _ (Classical.choose_spec h))

def RefN (w w' : World) (r : Value) (R : Nat ⊕ (Nat × List Fr × Nat)) : Prop :=
  ∃ (x : Value) (e i : Nat) (gs : List Fr) (hd : Int), r = .tuple #[.int .i64 (i : Nat), x, .int .i64 (e : Nat)] ∧ RingAt w' x gs hd ∧ FreshV w x ∧ Upd w w' [] ∧ ((R = .inl e ∧ gs = [] ∧ hd = 0 ∧ i = 0) ∨ (e = 0 ∧ ∃ h' : Nat, hd = h' ∧ R = .inr (i, gs, h')))

def anyLoose (fs : List Fr) (i : Nat) : Bool := (fs.take i).any fun f => f.pins == 0
theorem anyLoose_succ {fs : List Fr} {i : Nat} (hi : i < fs.length) : anyLoose fs (i + 1) = (anyLoose fs i || fs[i].pins == 0) := by
  unfold anyLoose; rw [List.take_succ_eq_append_getElem hi, List.any_append]; simp

theorem next_all {fs : List Fr} {hand : Int} (hm : May fs hand) (h : anyLoose fs fs.length = false) : nextR fs hand = .inl 15 := by
  cases hx : nextR fs hand with
  | inl e => rw [(next_none hm hx).1]
  | inr p =>
    exfalso
    obtain ⟨i, gs, h'⟩ := p
    obtain ⟨_, hm', hle, _, hi, ht⟩ := next_some hx
    have hi' : i < fs.length := by rw [← hle.1]; exact hi
    have hp : gs[i].pins = 0 := by
      have ho := (hm'.2.2.2.2 i hi).1
      rcases ht with ht | ht
      · exact (ho.2.2.2.2 ht).2
      · have := ho.2.2.1; omega
    have : anyLoose fs fs.length = true := by
      unfold anyLoose
      rw [List.take_length, List.any_eq_true]
      exact ⟨fs[i], List.getElem_mem hi', by rw [← (hle.2 i hi' hi).2.1]; simpa using hp⟩
    rw [h] at this; cases this
theorem next_any {fs : List Fr} {hand : Int} (hm : May fs hand) (h : anyLoose fs fs.length = true) : ∃ x, looksR (2 * fs.length + 1) fs hand.toNat = some x ∧ nextR fs hand = .inr x := by
  unfold nextR
  rw [if_pos hm]
  cases hx : looksR (2 * fs.length + 1) fs hand.toNat with
  | some x => exact ⟨x, rfl, rfl⟩
  | none =>
    exfalso
    have hn : nextR fs hand = .inl 15 := by unfold nextR; rw [if_pos hm, hx]
    unfold anyLoose at h
    rw [List.take_length, List.any_eq_true] at h
    obtain ⟨f, hf, hp⟩ := h
    obtain ⟨i, hi, rfl⟩ := List.getElem_of_mem hf
    exact (next_none hm hn).2 i hi (by simpa using hp)

theorem ringK_cells {w : World} {ks : List Nat} {A : Option Addr} {n c : Nat} {hd : Value} {fs : List Fr} {hand : Int} (h : RingK w ks (.agg #[.slice A n c, hd]) fs hand) : n = fs.length ∧ hd = .int .i64 hand ∧ fs.length ≤ maxLen ∧ ∀ w', Upd w w' ks → Rd w' 3 (.slice A fs.length c) fs.length (framesV fs) := by
  obtain ⟨A', c', he, hm, _⟩ := h.at_
  simp at he
  obtain ⟨⟨rfl, rfl, rfl⟩, rfl⟩ := he
  refine ⟨rfl, rfl, hm, fun w' hU => ?_⟩
  obtain ⟨A'', c'', he, _, hrd⟩ := h w' hU
  simp at he
  obtain ⟨rfl, rfl⟩ := he
  exact hrd

def NextI (W : World) (g g2 : Nat) (x : Nat × List Fr × Nat) (k : Nat) (vs : List Value) (w : World) : Prop :=
  ∃ (gs : List Fr) (h : Nat) (A : Option Addr) (c : Nat), looksR k gs h = some x ∧ h < gs.length ∧ gs.length ≤ 16 ∧ (∀ (i : Nat) (hi : i < gs.length), 0 ≤ gs[i].pins) ∧ Upd W w [] ∧ Owns w [(g2, .cells #[.slice none 0 0, .int .i64 0] 24 (0, 0)), (g, .cells #[.slice A gs.length c, .int .i64 (h : Nat)] 24 (0, 0))] ∧ RingK w [g] (.agg #[.slice A gs.length c, .int .i64 (h : Nat)]) gs h

theorem refNext_spec (w : World) (v : Value) (fs : List Fr) (hand : Int) (hr : RingAt w v fs hand) :
    CallsR Try.prog 26 #[v] w fun r w' => RefN w w' r (nextR fs hand) := by
  apply flotillaref14_Next_sound
  unfold flotillaref14_Next_x
  have hr' := hr
  obtain ⟨A, c, rfl, hm, hrd⟩ := hr'
  refine st_box (Upd.refl w []) (Owns.nil w) ?_
  intro g w1 hU1 hO1 hg
  refine st_alloc ze24 hU1 hO1 ?_
  intro g2 w2 hU2 hO2 hg2
  have c0 : w2.cell? ⟨g, 0, none⟩ = some (.slice A fs.length c) := cell_at (hO2.at_ 1 rfl)
  have c1 : w2.cell? ⟨g, 1, none⟩ = some (.int .i64 hand) := cell_at (hO2.at_ 1 rfl)
  rw [ld24 c0 c1]
  refine st_call (refMay_spec w2 _ fs hand (hr.mono hU2)) ?_
  clear hU1 hO1 c0 c1
  rintro _ w3 ⟨rfl, hU3⟩
  have hO3 := hO2.ext hU3
  have hU3 := hU2.trans hU3
  have hO3 : Owns w3 [(g2, .cells #[.slice none 0 0, .int .i64 0] 24 (0, 0)), (g, .cells #[.slice A fs.length c, .int .i64 hand] 24 (0, 0))] := hO3
  simp (disch := first | assumption | omega) only [PX, BX]
  refine ⟨fun hmay => ?_, fun hno => ?_⟩
  rotate_left
  · rw [step_run (build0 _)]
    refine st_ring hU3 hO3 0 rfl rfl rfl (.inr hg2) ?_
    intro w6 hU6 hO6 d0 d1
    exact ldr24 d0 d1 ⟨_, 1, 0, [], 0, rfl, ringZ_at _, ringZ_fresh _, hU6, .inl ⟨by unfold nextR; rw [if_neg hno], rfl, rfl, rfl⟩⟩
  have hn : fs.length ≤ 16 := hmay.2.1
  have c0 : w3.cell? ⟨g, 0, none⟩ = some (.slice A fs.length c) := cell_at (hO3.at_ 1 rfl)
  refine st_loop (fun vs w' => ∃ i : Nat, i ≤ fs.length ∧ vs.getD 0 undef = .bool (!anyLoose fs i) ∧ vs.getD 1 undef = .int .i64 i ∧ w' = w3) (fun vs _ => fs.length - (intOf (vs.getD 1 undef)).toNat) ⟨0, by omega, rfl, rfl, rfl⟩ ?_
  rintro dv vs w4 - ⟨i, hi, e0, e1, rfl⟩
  simp (disch := first | assumption | omega) only [e0, e1, PX, BX, LX]
  have hdec : fs.length - ((i : Int) + 1).toNat < fs.length - (i : Int).toNat ∨ fs.length ≤ i := by omega
  refine ⟨fun hlt => ?_, fun hge => ?_⟩
  · have hlt' : i < fs.length := by omega
    have hdec : fs.length - ((i : Int) + 1).toNat < fs.length - (i : Int).toNat := by omega
    obtain ⟨a, rfl, _, _, f2⟩ := fr_at hrd hlt'
    have f2 := f2 w4 hU3
    simp (disch := first | assumption | omega) only [PX, BX, LX, idx22, add_add', w64]
    refine ⟨fun hp => ⟨⟨i + 1, by omega, ?_, rfl, trivial⟩, hdec⟩, fun hp => ⟨⟨i + 1, by omega, ?_, rfl, trivial⟩, hdec⟩⟩
    · rw [anyLoose_succ hlt', hp]; simp
    · rw [anyLoose_succ hlt']
      have : (fs[i].pins == 0) = false := by simpa using hp
      rw [this, Bool.or_false]; rfl
  obtain rfl : i = fs.length := by omega
  unfold flotillaref14_Next_k1
  rw [bool_not, bool_var]
  refine ⟨fun ht => ?_, fun hf => ?_⟩
  rotate_left
  · rw [step_run (build0 _)]
    refine st_ring hU3 hO3 0 rfl rfl rfl (.inr hg2) ?_
    intro w6 hU6 hO6 d0 d1
    exact ldr24 d0 d1 ⟨_, 15, 0, [], 0, rfl, ringZ_at _, ringZ_fresh _, hU6, .inl ⟨next_all hmay hf, rfl, rfl, rfl⟩⟩
  obtain ⟨x, hx, hR⟩ := next_any hmay ht
  have hh := hmay.2.2.1
  have hh2 := hmay.2.2.2.1
  obtain ⟨h, rfl⟩ : ∃ m : Nat, hand = m := ⟨hand.toNat, by omega⟩
  rw [show ((h : Nat) : Int).toNat = h by omega] at hx
  have hstart : NextI w g g2 x (2 * fs.length + 1) [] w4 := by
    refine ⟨fs, h, A, c, hx, by omega, hn, fun i hi => (hmay.2.2.2.2 i hi).1.2.2.1, hU3, hO3, fun w' hU' => hr.mono (hU3.then_ hU' fun x hx => .inr ?_)⟩
    simp at hx; subst hx; exact hg
  refine st_loop (fun vs w' => ∃ k, NextI w g g2 x k vs w') (minK (NextI w g g2 x)) ⟨_, hstart⟩ ?_
  clear hstart hU3 hO3 c0 hx hmay hh hh2 hrd hr hm
  rintro dv2 vs2 w5 - hex
  obtain ⟨hI, hmin⟩ := minK_spec hex
  generalize minK (NextI w g g2 x) vs2 w5 = k at *
  obtain ⟨gs, h, A, c, hlk, hh, hgn, hpn, hU5, hO5, hK⟩ := hI
  obtain ⟨_, _, hgm, hrdK⟩ := ringK_cells hK
  have hrd := hrdK w5 (Upd.refl _ _)
  have c0 : w5.cell? ⟨g, 0, none⟩ = some (.slice A gs.length c) := cell_at (hO5.at_ 1 rfl)
  have c1 : w5.cell? ⟨g, 1, none⟩ = some (.int .i64 (h : Nat)) := cell_at (hO5.at_ 1 rfl)
  obtain ⟨a, rfl, f0, f1, f2⟩ := fr_at hrd hh
  simp (disch := first | assumption | omega) only [PX, LX, add_mk, Nat.reduceAdd, idx22]
  rw [ldA31 (f0 w5 (Upd.refl _ _)) (by rw [add_add']; exact f1 w5 (Upd.refl _ _)) (by rw [add_add']; exact f2 w5 (Upd.refl _ _))]
  clear f0 f1 f2
  have hgs : w.heap.size ≤ g := hg
  have hg5 : g < w5.heap.size := hO5.lt (.tail _ (List.mem_cons_self ..))
  refine st_newframe (Upd.refl w5 []) hO5 fun g8 w6 hU6 hO6 hg8 => ?_
  have c0 : w6.cell? ⟨g, 0, none⟩ = some (.slice (some a) gs.length c) := cell_at (hO6.at_ 2 rfl)
  have p0 : w6.cell? ⟨g8, 0, none⟩ = some (.int .i64 gs[h].page) := cell_at (hO6.at_ 0 rfl)
  simp (disch := first | assumption | omega) only [PX, LX, add_mk, Nat.reduceAdd, w64]
  rw [show Int.tmod ((h : Int) + 1) (gs.length : Int) = (((h + 1) % gs.length : Nat) : Int) from tmod_nat (h + 1) gs.length]
  refine st_storeB sz3 rfl (hU6.nil [g]) hO6 2 rfl (by simp) (.inr (Nat.zero_le _)) (.inl (by simp)) ?_
  intro w7 hU7 hO7
  have hO7 : Owns w7 [(g8, .cells #[.int .i64 gs[h].page, .bool gs[h].used, .int .i64 gs[h].pins] 31 (0, 0)), (g2, .cells #[.slice none 0 0, .int .i64 0] 24 (0, 0)), (g, .cells #[.slice (some a) gs.length c, .int .i64 ((h + 1) % gs.length : Nat)] 24 (0, 0))] := hO7
  have hUw7 : Upd w w7 [] := hU5.then_ hU7 fun y hy => .inr (by simp at hy; subst hy; exact hgs)
  have hr7 : ∀ w', Upd w7 w' [g] → RingAt w' (.agg #[.slice (some a) gs.length c, .int .i64 ((h + 1) % gs.length : Nat)]) gs ((h + 1) % gs.length : Nat) := fun w' hU' => ⟨_, _, rfl, hgm, hrdK w' (hU7.trans hU')⟩
  have p0 : w7.cell? ⟨g8, 0, none⟩ = some (.int .i64 gs[h].page) := cell_at (hO7.at_ 0 rfl)
  have p1 : w7.cell? ⟨g8, 1, none⟩ = some (.bool gs[h].used) := cell_at (hO7.at_ 0 rfl)
  have p2 : w7.cell? ⟨g8, 2, none⟩ = some (.int .i64 gs[h].pins) := cell_at (hO7.at_ 0 rfl)
  have d0 : w7.cell? ⟨g, 0, none⟩ = some (.slice (some a) gs.length c) := cell_at (hO7.at_ 2 rfl)
  have d1 : w7.cell? ⟨g, 1, none⟩ = some (.int .i64 ((h + 1) % gs.length : Nat)) := cell_at (hO7.at_ 2 rfl)
  obtain ⟨k, rfl⟩ : ∃ k', k = k' + 1 := by
    cases k with
    | zero => cases hlk
    | succ k => exact ⟨k, rfl⟩
  have hh' : (h + 1) % gs.length < gs.length := Nat.mod_lt _ (by omega)
  -- it is told
  have tell : (lookR gs h) = (true, gs) → (std Try.prog).step (sLoad 24 (.pointer (some ⟨g, 0, none⟩))) w7 fun v57 => fun u => (std Try.prog).step (sLoad 31 (.pointer (some ⟨g8, 0, none⟩))) u fun v58 u => (std Try.prog).calls 31 #[v57, .int .i64 (-1), v58] u fun v59 u => (std Try.prog).step (sStore 24 (.pointer (some ⟨g2, 0, none⟩)) v59) u fun _ u => (std Try.prog).loadR 24 (.pointer (some ⟨g2, 0, none⟩)) u fun r => RefN w u (.tuple #[.int .i64 (h : Nat), r, .int .i64 0]) (.inr x) := by
    intro hlook
    unfold looksR at hlk
    rw [hlook] at hlk
    simp only [if_true] at hlk
    injection hlk with hlk
    rw [ld24 d0 d1, ld31 p0 p1 p2]
    refine st_call (with_spec w7 _ gs _ (-1) gs[h] (hr7 w7 (Upd.refl _ _)) (by omega)) ?_
    rintro y w8 ⟨hr8, hf8, hU8⟩
    rw [show withL gs (-1) gs[h] = gs by unfold withL; rw [if_neg (by omega)]] at hr8
    have hk := ringK_fresh (ks := [g2]) hr8 hf8 (fun k hk => by simp at hk; subst hk; exact hO7.lt (.tail _ (List.mem_cons_self ..)))
    obtain ⟨A', c', rfl, hm', hrd'⟩ := hr8
    refine st_ring (Upd.refl w8 [g2]) (hO7.ext hU8) 1 rfl rfl rfl (.inl (by simp)) ?_
    intro w9 hU9 hO9 e0 e1
    refine ldr24 e0 e1 ⟨_, 0, h, gs, _, rfl, hk w9 hU9, fun a n c x he => Nat.le_trans hUw7.size (hf8 a n c x he), (hUw7.trans hU8).then_ hU9 fun y hy => .inr (by simp at hy; subst hy; exact hg2), .inr ⟨rfl, (h + 1) % gs.length, rfl, by rw [← hlk]⟩⟩
  -- the hand goes on
  have go : ∀ (w8 : World) (gs' : List Fr) (A' : Option Addr) (c' : Nat), lookR gs h = (false, gs') → gs'.length = gs.length → (∀ (i : Nat) (hi : i < gs'.length), 0 ≤ gs'[i].pins) → Upd w w8 [] → Owns w8 [(g2, .cells #[.slice none 0 0, .int .i64 0] 24 (0, 0)), (g, .cells #[.slice A' gs'.length c', .int .i64 ((h + 1) % gs.length : Nat)] 24 (0, 0))] → RingK w8 [g] (.agg #[.slice A' gs'.length c', .int .i64 ((h + 1) % gs.length : Nat)]) gs' ((h + 1) % gs.length : Nat) → (∃ k, NextI w g g2 x k [] w8) ∧ minK (NextI w g g2 x) [] w8 < k + 1 := by
    intro w8 gs' A' c' hlook hl' hp' hU8 hO8 hK8
    unfold looksR at hlk
    rw [hlook] at hlk
    simp only [Bool.false_eq_true, if_false] at hlk
    have : NextI w g g2 x k [] w8 := ⟨gs', (h + 1) % gs.length, A', c', hlk, by rw [hl']; exact hh', by omega, hp', hU8, hO8, hK8⟩
    exact ⟨⟨k, this⟩, Nat.lt_succ_of_le ((minK_spec ⟨k, this⟩).2 k this)⟩
  have goP : 0 < gs[h].pins → ¬ gs[h].page = -1 → (∃ k, NextI w g g2 x k [] w7) ∧ minK (NextI w g g2 x) [] w7 < k + 1 := fun hp hpg =>
    go w7 gs (some a) c (by unfold lookR; rw [List.getElem?_eq_getElem hh]; dsimp only; rw [if_neg hpg, if_pos hp]) rfl hpn hUw7 (hO7.sub (.cons _ (List.Sublist.refl _))) hr7
  have hpos := hpn h hh
  rw [hR]
  simp (disch := first | assumption | omega) only [PX, LX, BX, add_mk, Nat.reduceAdd, flotillaref14_Next_k2]
  refine ⟨fun hpg => tell ?_, fun hpg => ⟨fun hp => ?_, fun hp => ⟨fun h => absurd h hp, fun _ => goP (by omega) hpg⟩⟩⟩
  · unfold lookR; rw [List.getElem?_eq_getElem hh]; dsimp only; rw [if_pos hpg]
  · rw [bool_var]
    refine ⟨fun hu => ⟨fun _ => ?_, fun h => absurd hp h⟩, fun hu => tell ?_⟩
    · refine st_storeB sz4 rfl hU7 hO7 0 rfl (by simp) (.inr (Nat.zero_le _)) (.inr hg8) ?_
      intro w8 hU8 hO8
      have hO8 : Owns w8 [(g8, .cells #[.int .i64 gs[h].page, .bool false, .int .i64 gs[h].pins] 31 (0, 0)), (g2, .cells #[.slice none 0 0, .int .i64 0] 24 (0, 0)), (g, .cells #[.slice (some a) gs.length c, .int .i64 ((h + 1) % gs.length : Nat)] 24 (0, 0))] := hO8
      have hUw8 : Upd w w8 [] := hU5.then_ hU8 fun y hy => .inr (by simp at hy; subst hy; exact hgs)
      rw [ld24 (cell_at (hO8.at_ 2 rfl)) (cell_at (hO8.at_ 2 rfl)), ld31 (f := ⟨gs[h].page, false, gs[h].pins⟩) (cell_at (hO8.at_ 0 rfl)) (cell_at (hO8.at_ 0 rfl)) (cell_at (hO8.at_ 0 rfl))]
      refine st_call (with_spec w8 _ gs _ h ⟨gs[h].page, false, gs[h].pins⟩ ⟨_, _, rfl, hgm, hrdK w8 hU8⟩ (by omega)) ?_
      rintro y w9 ⟨hr9, hf9, hU9⟩
      rw [show withL gs h ⟨gs[h].page, false, gs[h].pins⟩ = gs.set h ⟨gs[h].page, false, gs[h].pins⟩ by unfold withL; rw [if_pos (by omega)]; rfl] at hr9
      have hk := ringK_fresh (ks := [g]) hr9 hf9 (fun k hk => by simp at hk; subst hk; exact hO8.lt (.tail _ (.tail _ (List.mem_cons_self ..))))
      obtain ⟨A', c', rfl, hm', hrd'⟩ := hr9
      refine st_ring (Upd.refl w9 [g]) (hO8.ext hU9) 2 rfl rfl rfl (.inl (by simp)) ?_
      intro w10 hU10 hO10 e0 e1
      refine go w10 _ A' c' (by unfold lookR; rw [List.getElem?_eq_getElem hh]; dsimp only; rw [if_neg hpg, if_neg (by omega), if_pos hu]) (by simp) ?_ ((hUw8.trans hU9).then_ hU10 fun y hy => .inr (by simp at hy; subst hy; exact hgs)) (hO10.sub (.cons _ (List.Sublist.refl _))) (hk.mono hU10)
      intro i hi
      rw [List.getElem_set]
      split
      · exact hpos
      · exact hpn i (by simpa using hi)
    · unfold lookR; rw [List.getElem?_eq_getElem hh]; dsimp only; rw [if_neg hpg, if_neg (by omega), hu]; rfl

theorem copied_spec (w : World) (v : Value) (fs : List Fr) (hand : Int) (hn : fs.length ≤ 1000) (hr : RingAt w v fs hand) :
    CallsR Try.prog 13 #[v] w fun r w' => RingAt w' r fs hand ∧ FreshV w r ∧ Upd w w' [] := by
  apply flotillalaw14_copied_sound
  unfold flotillalaw14_copied_x
  obtain ⟨A, c, rfl, hm, hrd⟩ := hr
  refine st_box (Upd.refl w []) (Owns.nil w) ?_
  intro g w1 hU1 hO1 hg
  refine st_alloc ze24 hU1 hO1 ?_
  intro g2 w2 hU2 hO2 hg2
  let hb := [(g2, Obj.cells #[.slice none 0 0, .int .i64 0] 24 (0, 0)), (g, Obj.cells #[.slice A fs.length c, .int .i64 hand] 24 (0, 0))]
  have hS2 : SU w hb w2.drew := SU.drew hU2 hO2
  have hne : ∃ w', SU w hb w' := ⟨_, hS2⟩
  have c0 : ∀ w', SU w hb w' → w'.cell? ⟨g, 0, none⟩ = some (.slice A fs.length c) := fun w' h => cell_at (h.2.at_ 1 rfl)
  have c1 : ∀ w', SU w hb w' → w'.cell? ⟨g, 1, none⟩ = some (.int .i64 hand) := fun w' h => cell_at (h.2.at_ 1 rfl)
  refine st_draw (SU w hb) hS2 ?_
  simp (disch := first | assumption | omega) only [SX, SLX, add_mk, Nat.zero_add]
  obtain ⟨inf, hi1, hz1, hs, hb1⟩ := inf31
  refine st_append (h := []) (F := hb) u22 hi1 hz1 hs hb1 rfl (by omega) (RowH.nil_ 31 3) hS2.2 hS2.1 (fun p hp => by cases hp) (hrd.mono hS2.1) (framesV_one _) (by unfold maxLen; omega) (by omega) ?_
  intro v4 w4 h4 hr4 hO4 hU4 hh4
  have hh4 : ∀ p ∈ h4, w.heap.size ≤ p.1 := fun p hp => (hh4 p hp).resolve_left (by simp)
  refine st_same ⟨hU4, hO4.sub (List.sublist_append_right _ _)⟩ ?_
  have hr4 : RowH 31 3 v4 fs.length (framesV fs) h4 := by
    have := hr4
    rw [Nat.zero_add, List.nil_append] at this
    exact this
  obtain ⟨A', c', rfl, hra, hfr⟩ := row_ring (W := w) hand hr4 (hO4.sub (List.sublist_append_left _ _)) hh4 hm
  rw [step_run (show (sBuild 24 [(0, .slice A' fs.length c'), (1, .int .i64 hand)]).run Try.prog w4 = .ok (.value (.agg #[.slice A' fs.length c', .int .i64 hand])) w4 by kernel_rfl)]
  refine st_keepT (fun _ => True) trivial ?_
  have hnd := hO4.1
  have hO4' := hO4.perm List.perm_append_comm
  refine st_ring (Upd.refl w4 [g2]) hO4' 0 rfl rfl rfl (.inl (by simp)) ?_
  intro w6 hU6 hO6 d0 d1
  refine st_keepT (fun _ => True) trivial ?_
  refine ldr24 d0 d1 ⟨?_, hfr, hU4.then_ hU6 fun x hx => .inr (by simp at hx; subst hx; exact hg2)⟩
  refine hra.upd hU6 fun a n c'' x he hm => ?_
  simp at he
  obtain ⟨⟨rfl, rfl, rfl⟩, rfl⟩ := he
  simp at hm
  rcases hr4.2 with ⟨he, _⟩ | ⟨g', cap, cs, he, rfl, _⟩
  · simp at he
  · simp at he
    obtain ⟨rfl, _⟩ := he
    simp [hb] at hm hnd
    exact hnd.1.1 hm

end Go.Proofs.Ytnghnolpohahpaa
