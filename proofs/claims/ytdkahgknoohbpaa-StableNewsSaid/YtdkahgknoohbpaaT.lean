/- A range over a write's sectors: it suffices to show what a round does, and what follows. -/
import Derived.Test.YtdkahgknoohbpaaE
import Derived.Test.YtdkahgknoohbpaaQ
import Derived.Test.YtdkahgknoohbpaaF
namespace Go.Proofs.Ytdkahgknoohbpaa
open Go Xf Go.RowKit
set_option linter.unusedVariables false
set_option linter.unusedSimpArgs false
set_option maxRecDepth 100000

def slL (k : Nat) (s : Nat → Value) : List Sl := (List.range k).map fun i => .val (s i)
theorem slL_v (k : Nat) (s : Nat → Value) (i : Nat) (h : i < k) : ((slL k s).map Sl.v)[i]? = some (s i) := by simp [slL, Sl.v, h]
theorem act_list {a : Act} {dfs : List Deferred} {k : Nat} (hs : a.tmps.size = k) (hd : a.defers = dfs) : a = actOf dfs (slL k (getA a)) := by
  refine Act.ext' ?_ hd
  apply Array.ext_getElem?
  intro i
  have e : (actOf dfs (slL k (getA a))).tmps[i]? = ((slL k (getA a)).map Sl.v)[i]? := by simp [actOf]
  rw [e]
  by_cases h : i < k
  · rw [slL_v k _ i h]
    have h2 : i < a.tmps.size := by omega
    simp [getA, h2]
  · rw [Array.getElem?_eq_none (by omega), List.getElem?_eq_none (by simp [slL]; omega)]
theorem getA_slL {dfs : List Deferred} {k : Nat} {s : Nat → Value} {i : Nat} (h : i < k) : getA (actOf dfs (slL k s)) i = s i := by
  have := slL_v k s i h
  rw [getA_actOf, getD_v, List.getD_eq_getElem?_getD, this]
  rfl
theorem getA_at {dfs : List Deferred} {fr : List Sl} {i : Nat} {v : Value} (h : fr.getD i (.val undef) = .val v) : getA (actOf dfs fr) i = v := by rw [getA_actOf, h]; rfl

theorem getA_put_ne {a : Act} {d i : Nat} {v : Value} (h : d ≠ i) : getA (a.put (some d) v) i = getA a i := by
  simp [getA, Act.put, Array.getElem?_setIfInBounds_ne h]
theorem getA_put_eq {a : Act} {d : Nat} {v : Value} (h : d < a.tmps.size) : getA (a.put (some d) v) d = v := by
  simp [getA, Act.put, h]
theorem put_size {a : Act} {d : Option Nat} {v : Value} : (a.put d v).tmps.size = a.tmps.size := by
  cases d <;> simp [Act.put]

theorem piece_wp {dfs : List Deferred} {ro : Option Nat} {n nb : Nat} {c : Code} {N : List Sl → World → Prop} {Q : Exit → Act → World → Prop} {fr : List Sl} {w : World} (hd : noDefC c = true)
    (h : Y Try.prog (std Try.prog) nb [] c (onN N) fr w) (hQ : ∀ fr w, N fr w → Q .normal (actOf dfs fr) w) : c.wpIn (wideR ro) n Try.prog Q (actOf dfs fr) w :=
  Y_wpIn mixed hd (fun e fr w he => by
    cases e with
    | normal => exact hQ _ _ he
    | _ => exact he.elim) h

theorem tail_wp {ro : Option Nat} {n nb : Nat} : ∀ (k : Nat) (c : Code) (Q : Exit → Act → World → Prop) (K : Act → World → Prop) (a : Act) (w : World), noDefC (dropT k c) = true →
    (∀ a w, K a w → (midT k c).wpIn (wideR ro) n Try.prog (Exit.then ((endT k c).wpIn (wideR ro) n Try.prog Q) Q) a w) →
    X Try.prog nb (dropT k c) (Exit.then K Q) a w → c.wpIn (wideR ro) n Try.prog Q a w
  | 0, c, Q, K, a, w, hd, hK, h => by
    cases c with
    | seq xb y =>
      cases xb with
      | seq x b =>
        refine wpIn_seq (wpIn_seq (Code.wpIn_mono (fun e a' w' he => ?_) (X_wpIn nb mixed x _ a w hd h)))
        cases e with
        | normal => exact hK _ _ he.1
        | _ => exact he.1
      | _ => exact h.elim
    | _ => exact h.elim
  | k + 1, c, Q, K, a, w, hd, hK, h => by
    cases c with
    | seq x y =>
      have hd' : (noDefC x && noDefC (dropT k y)) = true := hd
      rw [Bool.and_eq_true] at hd'
      refine wpIn_seq (Code.wpIn_mono (fun e a' w' he => ?_) (X_wpIn nb mixed x _ a w hd'.1 h))
      cases e with
      | normal => exact tail_wp k y Q K a' w' hd'.2 hK he.1
      | _ => exact he.1
    | _ => exact h.elim

/-! blocks that are no cells -/
theorem Owns.putAt {w : World} {h F : List (Nat × Obj)} {L : Nat} {o : Obj} (hO : Owns w (h ++ (L, o) :: F)) (o' : Obj) : Owns (w.putObj L o') (h ++ (L, o') :: F) := by
  have hi : (h ++ (L, o) :: F)[h.length]? = some (L, o) := by simp
  have hlt := hO.lt (p := (L, o)) (by simp)
  have := hO.put h.length (o' := o') hi (World.putObj_heap_same (w := w) hlt) (fun k hk => World.putObj_heap_other hk)
  have e : (h ++ (L, o) :: F).set h.length (L, o') = h ++ (L, o') :: F := by simp
  rw [e] at this
  exact this
theorem Upd.putObj (w : World) (L : Nat) (o : Obj) : Upd w (w.putObj L o) [L] := ⟨rfl, rfl, rfl, by simp, fun k hk hn => World.putObj_heap_other (by simpa using hn)⟩
theorem Owns.front {w : World} {h : List (Nat × Obj)} (hO : Owns w h) (o : Obj) : Owns (w.alloc o) (h ++ [(w.heap.size, o)]) := (hO.alloc o).perm (List.perm_append_singleton _ _).symm

section
variable {W : World} {ks : List Nat}

/-- what is ranged over: it calls yield with each sector's place -/
theorem sec_calls {L gw nn n : Nat} {cs : Array Value} {e : TypeId} {fr : Nat × Nat} {A : Option Addr} {c : Nat} (St : Nat → World → Prop) (StB : World → Prop) (hn : 64 * nn ≤ 1000000000)
    (hw : ∀ i w, i ≤ nn → St i w → w.cell? ⟨gw, 1, none⟩ = some (.slice A (64 * nn) c))
    (hy : ∀ i w m, i < nn → St i w → ∃ fn tmps assign body, (Instr.yield L #[.int .i64 (64 * i : Nat)]).run Try.prog w = .ok (.round L fn tmps assign body) w ∧
      RoundIn Fence.wide m Try.prog L fn tmps assign body w fun e w' => (e = .returned (.bool true) ∧ St (i + 1) w') ∨ (e = .returned (.bool false) ∧ StB w'))
    {w : World} (h0 : St 0 w) :
    CallsIn Fence.wide n Try.prog 25 #[.pointer (some ⟨gw, 0, none⟩), .func (.yield L) #[] #[]] w fun e w' => (∃ v, e = .returned v) ∧ (St nn w' ∨ StB w') := by
  refine callsIn_of_wp Try.func25 sec_shape trivial ?_
  have hres : Try.f25.results = #[] := by kernel_rfl
  have hend : ∀ (a : Act) (w : World), a.defers = [] → (St nn w ∨ StB w) → a.defers = [] ∧ ∃ v, (results Try.f25 a.tmps).run Try.prog w = .ok v w ∧ (∃ u, Ending.returned v = .returned u) ∧ (St nn w ∨ StB w) :=
    fun a w hd h => ⟨hd, _, results_none hres a.tmps Try.prog w, ⟨_, rfl⟩, h⟩
  have hn : Try.f25.ntmps = 18 := by kernel_rfl
  rw [hn]
  generalize ha0 : ({ tmps := #[Value.pointer (some ⟨gw, 0, none⟩), .func (.yield L) #[] #[]] ++ Array.replicate (18 - (#[Value.pointer (some ⟨gw, 0, none⟩), .func (.yield L) #[] #[]] : Array Value).size) undef, defers := [] } : Act) = a0
  have hs0 : a0.tmps.size = 18 := by rw [← ha0]; simp
  have hd0 : a0.defers = [] := by rw [← ha0]
  have g0 : getA a0 0 = .pointer (some ⟨gw, 0, none⟩) := by rw [← ha0]; simp [getA]
  have g1 : getA a0 1 = .func (.yield L) #[] #[] := by rw [← ha0]; simp [getA]
  rw [act_list hs0 hd0]
  generalize getA a0 = s at *
  refine wpIn_seq (piece_wp (ro := none) (N := fun fr w => (actOf [] fr).tmps.size = 18 ∧ getA (actOf [] fr) 0 = .pointer (some ⟨gw, 0, none⟩) ∧ getA (actOf [] fr) 1 = .func (.yield L) #[] #[] ∧ getA (actOf [] fr) 4 = .int .i64 0 ∧ St 0 w)
    (by kernel_rfl) (Eq.mp (sec_init_eq _ s w _) ?_) ?_)
  · exact ⟨rfl, g0, g1, rfl, h0⟩
  rintro fr w ⟨hs, g0, g1, g4, hI⟩
  show (Code.block 0 _).wpIn Fence.wide n Try.prog _ (actOf [] fr) w
  refine wpIn_block (wpIn_loop (fun a w => ∃ i : Nat, i ≤ nn ∧ a.tmps.size = 18 ∧ a.defers = [] ∧ getA a 0 = .pointer (some ⟨gw, 0, none⟩) ∧ getA a 1 = .func (.yield L) #[] #[] ∧ getA a 4 = .int .i64 (64 * i : Nat) ∧ St i w)
    (fun a w => 64 * nn - (match getA a 4 with | .int _ m => m.toNat | _ => 0)) ⟨0, Nat.zero_le _, hs, rfl, g0, g1, g4, hI⟩ ?_)
  clear hs g0 g1 g4 hI
  rintro a w1 ⟨i, hi, hs, hd, g0, g1, g4, hI⟩
  rw [g4]
  rw [act_list hs hd]
  generalize getA a = s at *
  have c1 := hw i w1 hi hI
  refine wpIn_seq (wpIn_seq (piece_wp (ro := none) (N := fun fr w' => (actOf [] fr).tmps.size = 18 ∧ getA (actOf [] fr) 0 = .pointer (some ⟨gw, 0, none⟩) ∧ getA (actOf [] fr) 1 = .func (.yield L) #[] #[] ∧ getA (actOf [] fr) 4 = .int .i64 (64 * i : Nat) ∧ getA (actOf [] fr) 11 = .bool (decide (((64 * i : Nat) : Int) < (64 * nn : Nat))) ∧ w' = w1)
    (by kernel_rfl) (Eq.mp (sec_test_eq _ s w1 _) ?_) ?_))
  · unfold sec_test_x
    simp (disch := first | assumption | omega) only [g0, g4, PX, BX, LX, add_mk, Nat.reduceAdd]
    exact ⟨rfl, rfl, g1, rfl, rfl, trivial⟩
  rintro fr w' ⟨hs, g0, g1, g4, g11, hw'⟩
  subst w'
  by_cases hlt : i < nn
  case neg =>
    refine wpIn_cond_false (by rw [show (actOf [] fr).eval (.tmp 11) = getA (actOf [] fr) 11 from rfl, g11, decide_eq_false (by omega)]) (wpIn_exit ?_)
    obtain rfl : i = nn := by omega
    exact hend _ _ rfl (.inl hI)
  refine wpIn_cond_true (by rw [show (actOf [] fr).eval (.tmp 11) = getA (actOf [] fr) 11 from rfl, g11, decide_eq_true (by omega)]) (wpIn_skip ?_)
  show (Code.seq _ _).wpIn Fence.wide n Try.prog _ (actOf [] fr) w1
  refine wpIn_seq (wpIn_block (wpIn_seq ?_))
  rw [secCall_eq]
  refine wpIn_region_list ?_
  show wpListIn Fence.wide n Try.prog _ _ [secO0, secO1, secO2, secO3] _ _
  generalize hfr : actOf [] fr = a1 at *
  have hd1 : a1.defers = [] := by rw [← hfr]; rfl
  refine wpListIn_plain rfl fun K0 hK0 => opX_wpIn (ro := none) (K := fun v w2 => v = .func (.yield L) #[] #[] ∧ w2 = w1) (by intro c h; cases h) (show _ ∧ _ from ⟨g1, rfl⟩) ?_
  rintro _ u2 ⟨rfl, hu2⟩
  subst u2
  refine hK0 _ _ ?_
  refine wpListIn_plain rfl fun K1 hK1 => opX_wpIn (ro := none) (K := fun v w2 => v = .int .i64 (64 * i : Nat) ∧ w2 = w1) (by intro c h; cases h) (show _ ∧ _ from ⟨?_, rfl⟩) ?_
  · exact (getA_put_ne (by decide)).trans g4
  rintro _ u2 ⟨rfl, hu2⟩
  subst u2
  refine hK1 _ _ ?_
  generalize ha2 : (a1.put secO0.dst (.func (.yield L) #[] #[])).put secO1.dst (.int .i64 (64 * i : Nat)) = a2
  have hs2 : a2.tmps.size = 18 := by rw [← ha2, put_size, put_size]; exact hs
  have hd2 : a2.defers = [] := by rw [← ha2]; exact hd1
  have k0 : getA a2 0 = .pointer (some ⟨gw, 0, none⟩) := by rw [← ha2]; exact (getA_put_ne (by decide)).trans ((getA_put_ne (by decide)).trans g0)
  have k1 : getA a2 1 = .func (.yield L) #[] #[] := by rw [← ha2]; exact (getA_put_ne (by decide)).trans ((getA_put_ne (by decide)).trans g1)
  have k4 : getA a2 4 = .int .i64 (64 * i : Nat) := by rw [← ha2]; exact (getA_put_ne (by decide)).trans ((getA_put_ne (by decide)).trans g4)
  have k14 : getA a2 14 = .func (.yield L) #[] #[] := by rw [← ha2]; exact (getA_put_ne (by decide)).trans (getA_put_eq (by rw [hs]; decide))
  have k15 : getA a2 15 = .int .i64 (64 * i : Nat) := by rw [← ha2]; exact getA_put_eq (by rw [put_size, hs]; decide)
  clear hfr ha2 hK0 hK1
  refine wpListIn_plain rfl fun K2 hK2 => ⟨fun _ _ => trivial, ?_⟩
  obtain ⟨fn, tmps, assign, body, hrun, hround⟩ := hy i w1 (n - 1) hlt hI
  rw [Oper.semAt_eq _ _ _ (by intro c h; cases h)]
  have he : (execOp a2.eval secO2).run Try.prog w1 = .ok (.round L fn tmps assign body) w1 := by
    rw [← semX_eq]
    show (sCallV (getA a2 14) [getA a2 15]).run Try.prog w1 = _
    rw [k14, k15, ← hrun]
    unfold sCallV Deferred.ofValue
    simp [Sem.run_bind, invoke]
  rw [he]
  rw [Oper.uponIn_round]
  refine ⟨fun h => (by cases h), RoundIn.mono hround ?_⟩
  have fin : ∀ (b : Bool) (w2 : World), (b = true → St (i + 1) w2) → (b = false → StB w2) → K2 (a2.put secO2.dst (.bool b)) w2 := by
    intro b w2 h1 h2
    refine hK2 _ _ ?_
    refine wpListIn_plain rfl fun K3 hK3 => opX_wpIn (ro := none) (K := fun v w3 => v = .bool (!b) ∧ w3 = w2) (by intro c h; cases h) ?_ ?_
    · show StepX Try.prog (sUn .not (getA (a2.put secO2.dst (.bool b)) 16)) w2 _
      rw [show getA (a2.put secO2.dst (.bool b)) 16 = .bool b from getA_put_eq (by rw [hs2]; decide)]
      unfold StepX
      rw [r_not]
      exact ⟨rfl, rfl⟩
    rintro _ u2 ⟨rfl, hu2⟩
    subst u2
    refine hK3 _ _ ?_
    generalize ha3 : (a2.put secO2.dst (.bool b)).put secO3.dst (.bool (!b)) = a3
    have hs3 : a3.tmps.size = 18 := by rw [← ha3, put_size, put_size]; exact hs2
    have hd3 : a3.defers = [] := by rw [← ha3]; exact hd2
    have m0 : getA a3 0 = .pointer (some ⟨gw, 0, none⟩) := by rw [← ha3]; exact (getA_put_ne (by decide)).trans ((getA_put_ne (by decide)).trans k0)
    have m1 : getA a3 1 = .func (.yield L) #[] #[] := by rw [← ha3]; exact (getA_put_ne (by decide)).trans ((getA_put_ne (by decide)).trans k1)
    have m4 : getA a3 4 = .int .i64 (64 * i : Nat) := by rw [← ha3]; exact (getA_put_ne (by decide)).trans ((getA_put_ne (by decide)).trans k4)
    have m17 : getA a3 17 = .bool (!b) := by rw [← ha3]; exact getA_put_eq (by rw [put_size, hs2]; decide)
    clear ha3 hK3
    cases b with
    | false =>
      refine wpIn_cond_true (show getA a3 17 = _ from m17) (wpIn_ret ?_)
      exact hend _ _ hd3 (.inr (h2 rfl))
    | true =>
      refine wpIn_cond_false (show getA a3 17 = _ from m17) (wpIn_skip ?_)
      show (secNext _).wpIn Fence.wide n Try.prog _ a3 _
      rw [act_list hs3 hd3]
      generalize getA a3 = s at *
      refine piece_wp (ro := none) (N := fun fr w' => (actOf [] fr).tmps.size = 18 ∧ getA (actOf [] fr) 0 = .pointer (some ⟨gw, 0, none⟩) ∧ getA (actOf [] fr) 1 = .func (.yield L) #[] #[] ∧ getA (actOf [] fr) 4 = .int .i64 (64 * (i + 1) : Nat) ∧ w' = w2)
        (by kernel_rfl) (Eq.mp (sec_next_eq _ s w2 _) ?_) ?_
      · unfold sec_next_x
        have e : IntKind.wrap .i64 (((64 * i : Nat) : Int) + 64) = ((64 * (i + 1) : Nat) : Int) := by rw [IntKind.wrap_i64]; omega
        simp (disch := first | assumption | omega) only [m4, PX, BX, e]
        exact ⟨rfl, m0, m1, rfl, trivial⟩
      rintro fr w3 ⟨q1, q2, q3, q4, hu2⟩
      subst w3
      refine ⟨⟨i + 1, hlt, q1, rfl, q2, q3, q4, h1 rfl⟩, ?_⟩
      rw [q4]
      simp only [Int.toNat_natCast]
      omega
  rintro e w2 (⟨rfl, hx⟩ | ⟨rfl, hx⟩)
  · exact fin true w2 (fun _ => hx) (fun h => by cases h)
  · exact fin false w2 (fun h => by cases h) (fun _ => hx)

/-- what is asked where the range begins: of the slots 3 (the device), 1 (the hand), 5 (how many), 7 (the write), 8 (the count) and 23 (what is ranged over) -/
def EndG (W : World) (ks : List Nat) (Q : Value → World → Prop) (v3 v1 v5 v7 v8 v23 : Value) (w : World) : Prop :=
  ∃ (gw : Nat) (at_ : Int) (A : Option Addr) (c nn : Nat) (e : TypeId) (fr : Nat × Nat) (h0 : List (Nat × Obj)) (Hs : Nat → List (Nat × Obj) → Prop) (HB : List (Nat × Obj) → Prop) (RR : Value → List (Nat × Obj) → Prop),
    v23 = .func (.func 25) #[.pointer (some ⟨gw, 0, none⟩)] #[] ∧ 64 * nn ≤ 1000000000 ∧ Upd W w ks ∧ Owns w h0 ∧ Hs 0 h0 ∧
    (∀ i h, i ≤ nn → Hs i h → (gw, .cells #[.int .i64 at_, .slice A (64 * nn) c] e fr) ∈ h) ∧
    (∀ (i : Nat) (h F : List (Nat × Obj)) (w : World) (s : Nat → Value), i < nn → Hs i h → Upd W w ks → Owns w (h ++ F) → s 3 = v3 → s 5 = v5 → s 7 = v7 → s 8 = v8 → s 9 = .int .i64 (64 * i : Nat) →
      end_body_x (std Try.prog) s w (fun w' => ∃ h', Hs (i + 1) h' ∧ Upd W w' ks ∧ Owns w' (h' ++ F)) (fun w' => ∃ h', HB h' ∧ Upd W w' ks ∧ Owns w' (h' ++ F))) ∧
    (∀ (h F : List (Nat × Obj)) (w : World) (s : Nat → Value), (Hs nn h ∨ HB h) → Upd W w ks → Owns w (h ++ F) → s 3 = v3 → s 1 = v1 →
      end_rest_x (std Try.prog) s w (fun v w' => ∃ h', RR v h' ∧ Upd W w' ks ∧ Owns w' (h' ++ F))) ∧
    (∀ v h w, RR v h → Upd W w ks → Owns w h → Q v w)

theorem end_walk {w : World} {a0 a1 a2 : Value} {Q : Value → World → Prop} (h : end_pre_x (std Try.prog) a0 a1 a2 w Q (EndG W ks Q)) : CallsR Try.prog 23 #[a0, a1, a2] w Q := by
  refine (callsIn_wide (n := 5)).1 (callsIn_of_wp_marks Try.func23 (show Try.f23.body = some (Try.f23.body.getD .skip) by kernel_rfl) trivial ?_)
  have hn : Try.f23.ntmps = 55 := by kernel_rfl
  have hres : Try.f23.results = #[.tmp 6] := by kernel_rfl
  rw [hn]
  have hact : ({ tmps := #[a0, a1, a2] ++ Array.replicate (55 - (#[a0, a1, a2] : Array Value).size) undef, defers := [] } : Act) = actOf [] [.val a0, .val a1, .val a2, .val undef, .val undef, .val undef, .val undef, .val undef, .val undef, .val undef, .val undef, .val undef, .val undef, .val undef, .val undef, .val undef, .val undef, .val undef, .val undef, .val undef, .val undef, .val undef, .val undef, .val undef, .val undef, .val undef, .val undef, .val undef, .val undef, .val undef, .val undef, .val undef, .val undef, .val undef, .val undef, .val undef, .val undef, .val undef, .val undef, .val undef, .val undef, .val undef, .val undef, .val undef, .val undef, .val undef, .val undef, .val undef, .val undef, .val undef, .val undef, .val undef, .val undef, .val undef, .val undef] := by kernel_rfl
  rw [hact]
  refine tail_wp (ro := none) (nb := 10) endK _ _ (fun a w => a.tmps.size = 55 ∧ a.defers = [] ∧ EndG W ks Q (getA a 3) (getA a 1) (getA a 5) (getA a 7) (getA a 8) (getA a 23) w) _ w (by kernel_rfl) ?_ ?_
  case refine_2 =>
    have h1 := Y_out (dfs := []) _ (end_pre_h Q (EndG W ks Q)) (fun e a w => match e with | .ret => Q (getA a 6) w | .normal => EndG W ks Q (getA a 3) (getA a 1) (getA a 5) (getA a 7) (getA a 8) (getA a 23) w | _ => False) _ w
      (fun e fr w he => by
        cases e with
        | ret => exact (getA_actOf fr 6).symm ▸ he
        | normal =>
          show EndG W ks Q (getA (actOf [] fr) 3) _ _ _ _ _ w
          simp only [getA_actOf]
          exact he
        | _ => exact he.elim) (Eq.mp (end_pre_eq (std Try.prog) a0 a1 a2 w Q (EndG W ks Q)) h)
    refine X_mono 10 _ _ _ _ _ (fun e a' w' he => ?_) (X_agree 10 _ _ _ _ h1)
    obtain ⟨he, hag⟩ := he
    cases e with
    | normal => exact ⟨hag.2.1, hag.1, he⟩
    | ret =>
      show LeavesInM Fence.wide 5 Try.prog _ _ _ a'.defers .returning w'
      rw [show a'.defers = [] from hag.1]
      exact ⟨_, results_tmp hres a'.tmps Try.prog w', _, rfl, he⟩
    | _ => exact he.elim
  rintro a w ⟨hs, hd, gw, at_, A, c, nn, e, fr, h0, Hs, HB, RR, e23, hnn, hU, hO, hH0, hmem, hbody, hrest, hfin⟩
  rw [end_shape]
  generalize hasg : (rangeParts (midT endK (Try.f23.body.getD .skip))).2.2.1 = asg
  generalize hbd : (rangeParts (midT endK (Try.f23.body.getD .skip))).2.2.2 = bd
  refine wpIn_block (wpIn_rangeFunc ?_)
  intro fn hfn
  obtain ⟨rec, hrec⟩ : ∃ rec : LoopState → Option Code → Loop, rec = fun st pe => { state := st, pending := pe, fn, tmps := a.tmps, params := #[24], assign := asg, body := bd, defers := w.heap.size } := ⟨_, rfl⟩
  obtain ⟨D, hD⟩ : ∃ D, D = w.heap.size := ⟨_, rfl⟩
  obtain ⟨L, hL⟩ : ∃ L, L = w.heap.size + 1 := ⟨_, rfl⟩
  have hWD : W.heap.size ≤ D := by rw [hD]; exact hU.size
  have hWL : W.heap.size ≤ L := by rw [hL]; have := hU.size; omega
  obtain ⟨W1, hW1⟩ : ∃ W1, (w.alloc (.deferred (some []))).alloc (.loop (rec .ready none)) = W1 := ⟨_, rfl⟩
  have hO1 : Owns W1 (h0 ++ [(L, .loop (rec .ready none)), (D, .deferred (some []))]) := by
    have h1 := (hO.alloc (.deferred (some []))).alloc (.loop (rec .ready none))
    rw [World.size_alloc, hW1, ← hL, ← hD] at h1
    exact h1.perm (List.perm_append_comm (l₁ := [_, _]))
  have hU1 : Upd W W1 ks := by
    rw [← hW1]
    exact (hU.then_ (Upd.alloc _ _ []) fun x hx => by cases hx).then_ (Upd.alloc _ _ []) fun x hx => by cases hx
  have hput : ∀ {w' : World} (k : Nat) (o : Obj), Upd W w' ks → W.heap.size ≤ k → Upd W (w'.putObj k o) ks := fun k o hu hk => hu.then_ (Upd.putObj _ _ _) fun x hx => by simp at hx; subst hx; exact .inr hk
  refine ⟨L, [{ target := .collected D, args := #[] }], W1, { target := .fn (.func 25) #[], args := #[.pointer (some ⟨gw, 0, none⟩), .func (.yield L) #[] #[]] }, W1, 25,
    #[.pointer (some ⟨gw, 0, none⟩), .func (.yield L) #[] #[]], W1, ?_, ?_, fun _ _ => trivial, ?_, fun h => (by cases h), ?_⟩
  · rw [← hW1, hrec, hL, hD]; exact run_enterLoop_outer _ _ _ _ _
  · have this : a.tmps[23]?.getD undef = .func (.func 25) #[.pointer (some ⟨gw, 0, none⟩)] #[] := by simpa [getA] using e23
    simp [resolve, rangeCall, this, Deferred.ofValue, Act.eval]
  · have := callable_run (P := Try.prog) (f := 25) (by kernel_rfl) #[.pointer (some ⟨gw, 0, none⟩), .func (.yield L) #[] #[]] W1
    simp only [invoke, Array.append_empty]
    exact this
  · have hsec := sec_calls (n := 4) (L := L) (gw := gw) (nn := nn) (cs := #[]) (e := e) (fr := fr) (A := A) (c := c)
      (fun i w' => ∃ h, Hs i h ∧ Upd W w' ks ∧ Owns w' (h ++ [(L, .loop (rec .ready none)), (D, .deferred (some []))]))
      (fun w' => ∃ h, HB h ∧ Upd W w' ks ∧ Owns w' (h ++ [(L, .loop (rec .done (some (.exit 0)))), (D, .deferred (some []))])) hnn ?_ ?_ (w := W1) ⟨h0, hH0, hU1, hO1⟩
    · refine CallsIn.mono hsec ?_
      rintro e' w3 ⟨⟨v, rfl⟩, hx⟩
      -- behind the range
      have rest : ∀ (h' : List (Nat × Obj)) (o : Obj) (w4 : World), (Hs nn h' ∨ HB h') → Upd W w4 ks → Owns w4 (h' ++ [(L, o), (D, .deferred (some []))]) →
          (endT endK (Try.f23.body.getD .skip)).wpIn Fence.wide 5 Try.prog (bodyPostM Fence.wide 5 Try.prog Try.f23 fun e w' => ∃ v, e = .returned v ∧ Q v w') { a with defers := [{ target := .collected D, args := #[] }] ++ a.defers } w4 := by
        intro h' o w4 hh hU4 hO4
        rw [act_list (a := { a with defers := [{ target := .collected D, args := #[] }] ++ a.defers }) (dfs := [{ target := .collected D, args := #[] }]) hs (by rw [hd]; rfl)]
        have e3 : getA { a with defers := [{ target := .collected D, args := #[] }] ++ a.defers } 3 = getA a 3 := rfl
        have e1 : getA { a with defers := [{ target := .collected D, args := #[] }] ++ a.defers } 1 = getA a 1 := rfl
        generalize getA { a with defers := [{ target := .collected D, args := #[] }] ++ a.defers } = s at *
        refine Y_wpIn (ro := none) mixed (by kernel_rfl) ?_ (Eq.mp (end_rest_eq (std Try.prog) s w4 _) (hrest h' [(L, o), (D, .deferred (some []))] w4 s hh hU4 hO4 e3 e1))
        intro e'' fr'' w5 hq
        cases e'' with
        | ret =>
          obtain ⟨h5, hR, hU5, hO5⟩ := hq
          have hDh : w5.heap[D]? = some (.deferred (some [])) := hO5.2 (D, _) (by simp)
          refine ⟨fun h => (by cases h), .inl ⟨D, _, rfl, run_takeDeferred hDh, ?_⟩⟩
          refine ⟨_, results_tmp hres _ Try.prog _, _, rfl, ?_⟩
          refine hfin _ h5 _ ?_ (hput D _ hU5 hWD) ?_
          · show RR (getA (actOf [{ target := .collected D, args := #[] }] fr'') 6) h5
            rw [getA_actOf]
            exact hR
          · have := (show Owns w5 ((h5 ++ [(L, o)]) ++ (D, .deferred (some [])) :: []) by simpa using hO5).putAt (.deferred none)
            exact this.sub (by simp)
        | _ => exact hq.elim
      rcases hx with ⟨h3, hh3, hU3, hO3⟩ | ⟨h3, hh3, hU3, hO3⟩
      · have hLh : w3.heap[L]? = some (.loop (rec .ready none)) := hO3.2 (L, _) (by simp)
        refine ⟨none, _, by have := run_endLoop (P := Try.prog) hLh (by rw [hrec]; intro h; cases h); rw [hrec] at this; exact this, ?_⟩
        exact rest h3 _ _ (.inl hh3) (hput L _ hU3 hWL) (hO3.putAt _)
      · have hLh : w3.heap[L]? = some (.loop (rec .done (some (.exit 0)))) := hO3.2 (L, _) (by simp)
        refine ⟨some (.exit 0), _, by have := run_endLoop (P := Try.prog) hLh (by rw [hrec]; intro h; cases h); rw [hrec] at this; exact this, wpIn_exit ?_⟩
        exact rest h3 _ _ (.inr hh3) (hput L _ hU3 hWL) (hO3.putAt _)
    · rintro i w' hi ⟨h', hh', hU', hO'⟩
      have := hO'.2 _ (List.mem_append_left _ (hmem i h' hi hh'))
      exact cell_at this
    · rintro i w' m hi ⟨h', hh', hU', hO'⟩
      have hLh : w'.heap[L]? = some (.loop (rec .ready none)) := hO'.2 (L, _) (by simp)
      have hy := run_yield (P := Try.prog) (args := #[.int .i64 (64 * i : Nat)]) hLh (by rw [hrec]; rfl)
      rw [hrec] at hy
      refine ⟨fn, _, asg, bd, hy, roundIn_of_wpIn hfn ?_⟩
      generalize ha1 : ({ tmps := (Array.zip (#[24] : Array Tmp) #[Value.int .i64 (64 * i : Nat)]).foldl (fun tmps (t, a) => tmps.setIfInBounds t a) a.tmps, defers := [] } : Act) = a1
      have ht : a1 = { a with defers := [] }.put (some 24) (.int .i64 (64 * i : Nat)) := by rw [← ha1]; simp [Act.put]
      have hs1 : a1.tmps.size = 55 := by rw [ht, put_size]; exact hs
      have hd1 : a1.defers = [] := by rw [ht]; rfl
      have k24 : getA a1 24 = .int .i64 (64 * i : Nat) := by rw [ht]; exact getA_put_eq (by rw [hs]; decide)
      have k3 : getA a1 3 = getA a 3 := by rw [ht]; exact getA_put_ne (by decide)
      have k5 : getA a1 5 = getA a 5 := by rw [ht]; exact getA_put_ne (by decide)
      have k7 : getA a1 7 = getA a 7 := by rw [ht]; exact getA_put_ne (by decide)
      have k8 : getA a1 8 = getA a 8 := by rw [ht]; exact getA_put_ne (by decide)
      clear ha1 ht
      rw [act_list hs1 hd1]
      generalize getA a1 = s at *
      rw [← hasg]
      refine piece_wp (ro := some L) (N := fun fr w2 => (actOf [] fr).tmps.size = 55 ∧ getA (actOf [] fr) 3 = getA a 3 ∧ getA (actOf [] fr) 5 = getA a 5 ∧ getA (actOf [] fr) 7 = getA a 7 ∧ getA (actOf [] fr) 8 = getA a 8 ∧ getA (actOf [] fr) 9 = .int .i64 (64 * i : Nat) ∧ w2 = w')
        (by kernel_rfl) (Eq.mp (end_asg_eq _ s w' _) ?_) ?_
      · exact ⟨rfl, k3, k5, k7, k8, k24, rfl⟩
      rintro fr2 w2 ⟨q0, q3, q5, q7, q8, q9, hw2⟩
      subst w2
      refine ⟨_, run_beginRound hLh (by rw [hrec]), ?_⟩
      have hO2 := hO'.putAt (.loop { rec .ready none with state := .busy })
      have hU2 := hput L (.loop { rec .ready none with state := .busy }) hU' hWL
      generalize w'.putObj L (.loop { rec .ready none with state := .busy }) = w2 at *
      rw [act_list (a := actOf [] fr2) (dfs := []) q0 rfl]
      generalize getA (actOf [] fr2) = s2 at *
      rw [← hbd]
      refine Y_wpIn (ro := some L) mixed (by kernel_rfl) ?_ (Eq.mp (end_body_eq (std Try.prog) s2 w2 _ _) (hbody i h' _ w2 s2 hi hh' hU2 hO2 q3 q5 q7 q8 q9))
      intro e' fr' w3 hq
      cases e' with
      | normal =>
        obtain ⟨h3, hh3, hU3, hO3⟩ := hq
        have hL3 : w3.heap[L]? = some (.loop { rec .ready none with state := .busy }) := hO3.2 (L, _) (by simp)
        refine ⟨_, _, run_endRound none hL3, .inl ⟨rfl, h3, hh3, hput L _ hU3 hWL, ?_⟩⟩
        have := hO3.putAt (.loop (rec .ready none))
        rw [hrec] at this ⊢
        exact this
      | exit id =>
        match id, hq with
        | 0, hq =>
          obtain ⟨h3, hh3, hU3, hO3⟩ := hq
          have hL3 : w3.heap[L]? = some (.loop { rec .ready none with state := .busy }) := hO3.2 (L, _) (by simp)
          refine ⟨_, _, run_endRound (some (.exit 0)) hL3, .inr ⟨rfl, h3, hh3, hput L _ hU3 hWL, ?_⟩⟩
          have := hO3.putAt (.loop (rec .done (some (.exit 0))))
          rw [hrec] at this ⊢
          exact this
        | _ + 1, hq => exact hq.elim
      | _ => exact hq.elim
end
end Go.Proofs.Ytdkahgknoohbpaa
