/- A ring behind some steps; how many frames are not pinned. -/
import Derived.Test.YtnghnolpohahpaaS10
import Derived.Test.YtnghnolpohahpaaS8
import Derived.Test.YtnghnolpohahpaaV
namespace Go.Proofs.Ytnghnolpohahpaa
open Go Xf Go.RowKit
set_option linter.unusedVariables false
set_option linter.unusedSimpArgs false
set_option maxRecDepth 100000

structure Ask where
  kind : Int
  page : Int
  n : Int
def askV (o : Ask) : List Value := [.int .i64 o.kind, .int .i64 o.page, .int .i64 o.n]
theorem askV_len (o : Ask) : (askV o).length = 3 := rfl
theorem askV_of (row : List Value) (h : RowOk [.int .i64, .int .i64, .int .i64] row) : ∃ o, row = askV o ∧ in64 o.kind ∧ in64 o.page ∧ in64 o.n := by
  obtain ⟨hl, hk⟩ := h
  obtain ⟨_, e0, n0, rfl, w0⟩ := hk 0 _ rfl
  obtain ⟨_, e1, n1, rfl, w1⟩ := hk 1 _ rfl
  obtain ⟨_, e2, n2, rfl, w2⟩ := hk 2 _ rfl
  refine ⟨⟨n0, n1, n2⟩, ?_, in64_wf w0, in64_wf w1, in64_wf w2⟩
  match row, hl with
  | [a, b, c], _ => simp at e0 e1 e2; subst e0 e1 e2; rfl

theorem sld24 {g : Nat} {a b : Value} {S : World → Prop} {k : Value → Prop} (hne : ∃ w, S w) (h0 : ∀ w, S w → w.cell? ⟨g, 0, none⟩ = some a) (h1 : ∀ w, S w → w.cell? ⟨g, 1, none⟩ = some b) :
    (std Try.prog).stepS S (sLoad 24 (.pointer (some ⟨g, 0, none⟩))) k = k (.agg #[a, b]) := by
  refine stepS_run hne fun w hw => run_sLoad (run_loadVarN (cs := [a, b]) ag24 (by rw [sz24]; rfl) fun j v hj => ?_)
  rw [add_mk, Nat.zero_add]
  match j, hj with
  | 0, hj => simp at hj; subst hj; exact h0 w hw
  | 1, hj => simp at hj; subst hj; exact h1 w hw

/-- what a call gives: an error, or a ring that may be and is as long -/
def GoodR (fs : List Fr) (hand : Int) (R : Nat ⊕ (List Fr × Int)) : Prop := (∀ e, R = .inl e → e ≠ 0) ∧ ∀ fs' h', R = .inr (fs', h') → May fs hand ∧ May fs' h' ∧ fs'.length = fs.length
theorem change_err {fs : List Fr} {hand page : Int} {f : Fr → Nat ⊕ Fr} (hf : ∀ x e, f x = .inl e → e ≠ 0) {e : Nat} (h : changeR fs hand page f = .inl e) : e ≠ 0 := by
  unfold changeR at h
  split at h
  · split at h
    · injection h with h; omega
    · split at h
      · injection h with h; omega
      · split at h
        · rename_i hx; injection h with h; subst h; exact hf _ _ hx
        · cases h
  · injection h with h; omega
theorem good_change {fs : List Fr} {hand page : Int} {f : Fr → Nat ⊕ Fr} (hf : ∀ x y, f x = .inr y → 0 ≤ x.page → okF x → okF y ∧ (y.page = x.page ∨ y.page = -1)) (hfe : ∀ x e, f x = .inl e → e ≠ 0) : GoodR fs hand (changeR fs hand page f) :=
  ⟨fun e h => change_err hfe h, fun fs' h' h => by obtain ⟨a, b, c, _⟩ := change_may hf h; exact ⟨a, b, c⟩⟩
theorem good_touch (fs : List Fr) (hand page : Int) : GoodR fs hand (changeR fs hand page touchF) := good_change touch_ok fun x e h => by cases h
theorem good_drop (fs : List Fr) (hand page : Int) : GoodR fs hand (changeR fs hand page dropF) := good_change drop_ok fun x e h => by
  unfold dropF at h; split at h
  · injection h with h; omega
  · cases h
theorem good_pin (fs : List Fr) (hand page n : Int) : GoodR fs hand (changeR fs hand page (pinF n)) := good_change (pin_ok n) fun x e h => by
  unfold pinF at h; split at h
  · injection h with h; omega
  · cases h
theorem good_put (fs : List Fr) (hand page : Int) : GoodR fs hand (putR fs hand page) := by
  refine ⟨fun e h => ?_, fun fs' h' h => by obtain ⟨a, b, c, _⟩ := put_may h; exact ⟨a, b, c⟩⟩
  unfold putR at h
  split at h
  · injection h with h; omega
  · split at h
    · injection h with h; omega
    · split at h
      · injection h with h; omega
      · cases h
def forgetI : Nat ⊕ (Nat × List Fr × Nat) → Nat ⊕ (List Fr × Int)
  | .inl e => .inl e
  | .inr p => .inr (p.2.1, p.2.2)
theorem good_next (fs : List Fr) (hand : Int) : GoodR fs hand (forgetI (nextR fs hand)) := by
  refine ⟨fun e h => ?_, fun fs' h' h => ?_⟩
  · cases hx : nextR fs hand with
    | inr p => rw [hx] at h; cases h
    | inl e' =>
      rw [hx] at h
      injection h with h
      subst h
      by_cases hm : May fs hand
      · have := (next_none hm hx).1; omega
      · unfold nextR at hx; rw [if_neg hm] at hx; injection hx with hx; omega
  · cases hx : nextR fs hand with
    | inl e => rw [hx] at h; cases h
    | inr p =>
      rw [hx] at h
      injection h with h
      injection h with h1 h2
      subst h1 h2
      obtain ⟨i, fs', h'⟩ := p
      obtain ⟨a, b, c, _⟩ := next_some hx
      exact ⟨a, b, c.1⟩

/-- the frames of a ring that is held: a row of its own, or none -/
def RingF (fs : List Fr) (A : Option Addr) (c : Nat) (F : List (Nat × Obj)) (b : Nat) : Prop :=
  fs.length ≤ maxLen ∧ ((A = none ∧ c = 0 ∧ fs = [] ∧ F = []) ∨ ∃ g, b ≤ g ∧ A = some ⟨g, 0, none⟩ ∧ c = fs.length ∧ F = [(g, .cells (framesV fs).toArray 31 (0, 0))])
theorem RingF.at_ {fs : List Fr} {A : Option Addr} {c b : Nat} {F h : List (Nat × Obj)} (hf : RingF fs A c F b) {w : World} (hO : Owns w (h ++ F)) (hand : Int) : RingAt w (.agg #[.slice A fs.length c, .int .i64 hand]) fs hand := by
  obtain ⟨hm, ⟨rfl, rfl, rfl, rfl⟩ | ⟨g, _, rfl, rfl, rfl⟩⟩ := hf
  · exact ⟨_, _, rfl, hm, Rd.nil_ _ _⟩
  · exact ⟨_, _, rfl, hm, rd_own rfl (hO.at_ h.length (by simp : (h ++ [(g, Obj.cells (framesV fs).toArray 31 (0, 0))])[h.length]? = some (g, Obj.cells (framesV fs).toArray 31 (0, 0))))⟩

/-- n frames that may be, or none -/
def GoodN (n : Int) (fs : List Fr) (hand : Int) : Prop := ((n < 1 ∨ 16 < n) ∧ fs = [] ∧ hand = 0) ∨ (¬ (n < 1 ∨ 16 < n) ∧ May fs hand ∧ fs.length = n.toNat)
theorem GoodN.next {n : Int} {fs fs' : List Fr} {hand h' : Int} {R : Nat ⊕ (List Fr × Int)} (hg : GoodN n fs hand) (hR : GoodR fs hand R) (h : R = .inr (fs', h')) : GoodN n fs' h' := by
  obtain ⟨h1, h2, h3⟩ := hR.2 _ _ h
  rcases hg with ⟨_, rfl, _⟩ | ⟨hn, hm, hl⟩
  · have := h1.1; simp at this
  · exact .inr ⟨hn, h2, by omega⟩

/-- what a call answers, in parts -/
theorem ringE_out {w w' : World} {r : Value} {R : Nat ⊕ (List Fr × Int)} (h : RingE w w' r R) :
    ∃ (A : Option Addr) (c : Nat) (hd : Int) (e : Nat) (fs : List Fr) (F : List (Nat × Obj)), r = .tuple #[.agg #[.slice A fs.length c, .int .i64 hd], .int .i64 (e : Nat)] ∧ Upd w w' [] ∧ RingF fs A c F w.heap.size ∧ Owns w' F ∧ (R = .inl e ∨ (e = 0 ∧ R = .inr (fs, hd))) := by
  cases R with
  | inl e => obtain ⟨rfl, hU⟩ := h; exact ⟨none, 0, 0, e, [], [], rfl, hU, ⟨Nat.zero_le _, .inl ⟨rfl, rfl, rfl, rfl⟩⟩, Owns.nil _, .inl rfl⟩
  | inr p =>
    obtain ⟨g, x, ⟨rfl, hm, hO, hU, hg⟩, rfl⟩ := h
    exact ⟨_, _, _, 0, p.1, _, rfl, hU, ⟨hm, .inr ⟨g, hg, rfl, rfl, rfl⟩⟩, hO, .inr ⟨rfl, rfl⟩⟩
theorem nextE_out {w w' : World} {r : Value} {R : Nat ⊕ (Nat × List Fr × Nat)} (h : NextE w w' r R) :
    ∃ (A : Option Addr) (c : Nat) (hd : Int) (e i : Nat) (fs : List Fr) (F : List (Nat × Obj)), r = .tuple #[.int .i64 (i : Nat), .agg #[.slice A fs.length c, .int .i64 hd], .int .i64 (e : Nat)] ∧ Upd w w' [] ∧ RingF fs A c F w.heap.size ∧ Owns w' F ∧ (R = .inl e ∨ (e = 0 ∧ ∃ h' : Nat, hd = h' ∧ R = .inr (i, fs, h'))) := by
  cases R with
  | inl e => obtain ⟨rfl, hU⟩ := h; exact ⟨none, 0, 0, e, 0, [], [], rfl, hU, ⟨Nat.zero_le _, .inl ⟨rfl, rfl, rfl, rfl⟩⟩, Owns.nil _, .inl rfl⟩
  | inr p =>
    obtain ⟨g, x, ⟨rfl, hm, hO, hU, hg⟩, rfl⟩ := h
    exact ⟨_, _, _, 0, p.1, p.2.1, _, rfl, hU, ⟨hm, .inr ⟨g, hg, rfl, rfl, rfl⟩⟩, hO, .inr ⟨rfl, p.2.2, rfl, rfl⟩⟩

/-- old blocks and a fresh row -/
theorem owns_join {w w' : World} {h F : List (Nat × Obj)} {fs : List Fr} {A : Option Addr} {c : Nat} (hO : Owns w h) (hU : Upd w w' []) (hF : RingF fs A c F w.heap.size) (hOF : Owns w' F) : Owns w' (h ++ F) := by
  obtain ⟨hm, ⟨rfl, rfl, rfl, rfl⟩ | ⟨g, hg, rfl, rfl, rfl⟩⟩ := hF
  · rw [List.append_nil]; exact hO.ext hU
  · refine Owns.perm (h := (g, _) :: h) ?_ (by simpa using List.perm_append_comm (l₁ := [_]) (l₂ := h))
    refine ⟨?_, fun p hp => ?_⟩
    · simp only [List.map_cons, List.nodup_cons]
      refine ⟨fun hm => ?_, hO.1⟩
      obtain ⟨p, hp, he⟩ := List.mem_map.1 hm
      have := hO.lt hp
      omega
    · rcases List.mem_cons.1 hp with rfl | hp
      · exact hOF.at_ 0 rfl
      · exact (hO.ext hU).2 p hp

def MadeI (W : World) (n : Int) (g4 g5 : Nat) (k : Nat) (vs : List Value) (w' : World) : Prop :=
  ∃ (i : Nat) (fs : List Fr) (hand : Int) (A : Option Addr) (c : Nat) (F : List (Nat × Obj)), i ≤ k ∧ vs.getD 0 undef = .int .i64 i ∧ GoodN n fs hand ∧ RingF fs A c F W.heap.size ∧ Upd W w' [] ∧ Owns w' ([(g5, .cells #[.slice A fs.length c, .int .i64 hand] 24 (0, 0)), (g4, .cells #[.slice none 0 0, .int .i64 0] 24 (0, 0))] ++ F)

theorem made_tail {W w2 w3 : World} {n : Int} {g4 g5 g8 k i : Nat} {fs fs' : List Fr} {hand : Int} {A A' : Option Addr} {c c' : Nat} {F F' : List (Nat × Obj)} {vs : List Value} {e : Nat} {R : Nat ⊕ (List Fr × Int)} {hd : Int} {Q : Value → World → Prop}
    (hg4 : W.heap.size ≤ g4) (hg5 : W.heap.size ≤ g5) (hk : k ≤ maxLen) (e0 : vs.getD 0 undef = .int .i64 i) (hi : i < k) (hG : GoodN n fs hand) (hF : RingF fs A c F W.heap.size) (hGR : GoodR fs hand R)
    (hU : Upd W w3 []) (hO : Owns w3 ([(g8, .cells #[.slice A' fs'.length c', .int .i64 hd] 24 (0, 0)), (g5, .cells #[.slice A fs.length c, .int .i64 hand] 24 (0, 0)), (g4, .cells #[.slice none 0 0, .int .i64 0] 24 (0, 0))] ++ F ++ F')) (hW2 : W.heap.size ≤ w2.heap.size) (hF' : RingF fs' A' c' F' w2.heap.size)
    (hres : R = .inl e ∨ (e = 0 ∧ R = .inr (fs', hd))) :
    flotillalaw14_made_k3 (std Try.prog) (.pointer (some ⟨g5, 0, none⟩)) vs (fun vs' w' => MadeI W n g4 g5 k vs' w' ∧ k - (intOf (vs'.getD 0 undef)).toNat < k - (intOf (.int .i64 (i : Nat))).toNat) (.pointer (some ⟨g8, 0, none⟩)) (.int .i64 (e : Nat)) w3 Q := by
  unfold flotillalaw14_made_k3 flotillalaw14_made_k2
  have hin : (i : Int) < 9223372036854775807 := by unfold maxLen at hk; omega
  have d0 : w3.cell? ⟨g8, 0, none⟩ = some (.slice A' fs'.length c') := cell_at (hO.at_ 0 rfl)
  have d1 : w3.cell? ⟨g8, 1, none⟩ = some (.int .i64 hd) := cell_at (hO.at_ 0 rfl)
  simp (disch := first | assumption | omega) only [PX, BX, e0, w64, ld24]
  have hdec : k - (intOf (([.int .i64 ((i : Int) + 1)] : List Value).getD 0 undef)).toNat < k - (intOf (.int .i64 (i : Int))).toNat := by
    simp only [List.getD_cons_zero, intOf]; omega
  refine ⟨fun he => ?_, fun he => ⟨⟨i + 1, fs, hand, A, c, F, by omega, rfl, hG, hF, hU, hO.sub (.cons _ (List.sublist_append_left _ _))⟩, hdec⟩⟩
  rcases hres with h1 | ⟨_, h1⟩
  · exact absurd (by omega) (hGR.1 e h1)
  · refine st_ring hU hO 1 rfl rfl rfl (.inr hg5) ?_
    intro w4 hU4 hO4 _ _
    refine ⟨⟨i + 1, fs', hd, A', c', F', by omega, rfl, hG.next hGR h1, ?_, hU4, hO4.sub (.cons _ (.cons_cons _ (.cons_cons _ (List.sublist_append_right F F'))))⟩, hdec⟩
    obtain ⟨hm, h | ⟨g, hg, h⟩⟩ := hF'
    · exact ⟨hm, .inl h⟩
    · exact ⟨hm, .inr ⟨g, by omega, h⟩⟩

/-- behind a call that gives a ring, in a drawn region -/
theorem made_after {W w2 w3 : World} {n : Int} {g4 g5 g8 k i : Nat} {fs : List Fr} {hand : Int} {A : Option Addr} {c : Nat} {F : List (Nat × Obj)} {vs : List Value} {R : Nat ⊕ (List Fr × Int)} {r : Value} {Q : Value → World → Prop}
    (hg4 : W.heap.size ≤ g4) (hg5 : W.heap.size ≤ g5) (hg8 : W.heap.size ≤ g8) (hk : k ≤ maxLen) (e0 : vs.getD 0 undef = .int .i64 i) (hi : i < k) (hG : GoodN n fs hand) (hF : RingF fs A c F W.heap.size) (hGR : GoodR fs hand R)
    (hU2 : Upd W w2 []) (hO : Owns w2 ([(g8, .cells #[.slice A fs.length c, .int .i64 hand] 24 (0, 0)), (g5, .cells #[.slice A fs.length c, .int .i64 hand] 24 (0, 0)), (g4, .cells #[.slice none 0 0, .int .i64 0] 24 (0, 0))] ++ F)) (hE : RingE w2 w3 r R) :
    (std Try.prog).keepT w3 fun S => (std Try.prog).stepS S (sExtract r 0) fun a => (std Try.prog).stepS S (sExtract r 1) fun b => (std Try.prog).step (sStore 24 (.pointer (some ⟨g8, 0, none⟩)) a) w3 fun _ w => (std Try.prog).keepS S w fun S' =>
    flotillalaw14_made_k3 (std Try.prog) (.pointer (some ⟨g5, 0, none⟩)) vs (fun vs' w' => MadeI W n g4 g5 k vs' w' ∧ k - (intOf (vs'.getD 0 undef)).toNat < k - (intOf (.int .i64 (i : Nat))).toNat) (.pointer (some ⟨g8, 0, none⟩)) b w Q := by
  obtain ⟨A', c', hd, e, fs', F', rfl, hU3, hF', hOF, hres⟩ := ringE_out hE
  have hO3 := owns_join hO hU3 hF' hOF
  have hUW := hU2.trans hU3
  refine st_keepT (fun w' => Upd W w' []) hUW ?_
  have hne : ∃ w', Upd W w' [] := ⟨_, hUW⟩
  rw [sx_ext20 hne, sx_ext21 hne]
  refine st_ring hUW hO3 0 rfl rfl rfl (.inr hg8) ?_
  intro w4 hU4 hO4 _ _
  refine st_same hU4 ?_
  exact made_tail hg4 hg5 hk e0 hi hG hF hGR hU4 hO4 hU2.size hF' hres

/-- what 'made' gives -/
def MadeE (W : World) (n : Int) (r : Value) (w' : World) : Prop :=
  ∃ (fs : List Fr) (hand : Int) (A : Option Addr) (c : Nat) (F : List (Nat × Obj)), GoodN n fs hand ∧ r = .agg #[.slice A fs.length c, .int .i64 hand] ∧ RingF fs A c F W.heap.size ∧ Owns w' F ∧ Upd W w' []
theorem made_own (W : World) (n : Int) (v : Value) (l : List Ask) (hr : RdS W askV 3 v l) (hl : ∀ o ∈ l, in64 o.kind ∧ in64 o.page ∧ in64 o.n) :
    CallsR Try.prog 15 #[.int .i64 n, v] W fun r w' => MadeE W n r w' := by
  apply flotillalaw14_made_sound
  unfold flotillalaw14_made_x
  obtain ⟨B, cb, rfl, hlm, hrd⟩ := hr
  refine st_alloc ze24 (Upd.refl W []) (Owns.nil W) ?_
  intro g4 w1 hU1 hO1 hg4
  refine st_call (New_spec w1 n) ?_
  intro r w2 hE
  have start : ∃ (A : Option Addr) (c m : Nat) (hd : Int) (fs : List Fr) (F : List (Nat × Obj)) (e : Nat), r = .tuple #[.agg #[.slice A m c, .int .i64 hd], .int .i64 (e : Nat)] ∧ m = fs.length ∧ GoodN n fs hd ∧ Upd w1 w2 [] ∧ RingF fs A c F w1.heap.size ∧ Owns w2 F := by
    unfold newR at hE
    by_cases hn : n < 1 ∨ 16 < n
    · rw [if_pos hn] at hE
      obtain ⟨rfl, hU⟩ := hE
      exact ⟨none, 0, 0, 0, [], [], 1, rfl, rfl, .inl ⟨hn, rfl, rfl⟩, hU, ⟨Nat.zero_le _, .inl ⟨rfl, rfl, rfl, rfl⟩⟩, Owns.nil _⟩
    · rw [if_neg hn] at hE
      obtain ⟨g, x, ⟨rfl, hm, hO, hU, hg⟩, rfl⟩ := hE
      exact ⟨_, _, _, _, _, _, 0, rfl, rfl, .inr ⟨hn, may_new _ (by omega) (by omega), by rw [newK_len]⟩, hU, ⟨hm, .inr ⟨g, hg, rfl, rfl, rfl⟩⟩, hO⟩
  obtain ⟨A, c, m, hd, fs, F, e, rfl, rfl, hG, hU2, hF, hOF⟩ := start
  have hO2 := owns_join hO1 hU2 hF hOF
  have hU2 := hU1.trans hU2
  rw [px_ext20, px_ext21]
  refine st_alloc ze24 hU2 hO2 ?_
  intro g5 w3 hU3 hO3 hg5
  refine st_ring hU3 hO3 0 rfl rfl rfl (.inr hg5) ?_
  intro w4 hU4 hO4 _ _
  have hF4 : RingF fs A c F W.heap.size := by
    obtain ⟨hm, h | ⟨g, hg, h⟩⟩ := hF
    · exact ⟨hm, .inl h⟩
    · exact ⟨hm, .inr ⟨g, Nat.le_trans hU1.size hg, h⟩⟩
  refine st_loop (MadeI W n g4 g5 l.length) (fun vs _ => l.length - (intOf (vs.getD 0 undef)).toNat) ⟨0, fs, hd, A, c, F, by omega, rfl, hG, hF4, hU4, hO4⟩ ?_
  clear hU1 hO1 hU2 hO2 hU3 hO3 hU4 hO4 hG hF hF4 hOF hE
  rintro dv vs w5 - ⟨i, fs, hand, A, c, F, hi, e0, hG, hF, hU5, hO5⟩
  simp (disch := omega) only [e0, PX, BX]
  have d0 : w5.cell? ⟨g5, 0, none⟩ = some (.slice A fs.length c) := cell_at (hO5.at_ 0 rfl)
  have d1 : w5.cell? ⟨g5, 1, none⟩ = some (.int .i64 hand) := cell_at (hO5.at_ 0 rfl)
  have fin : flotillalaw14_made_k1 (std Try.prog) (.pointer (some ⟨g4, 0, none⟩)) (.pointer (some ⟨g5, 0, none⟩)) w5 fun r w' => MadeE W n r w' := by
    unfold flotillalaw14_made_k1
    rw [ld24 d0 d1]
    refine st_ring hU5 hO5 1 rfl rfl rfl (.inr hg4) ?_
    intro w6 hU6 hO6 e0 e1
    have hO6 : Owns w6 ([(g5, .cells #[.slice A fs.length c, .int .i64 hand] 24 (0, 0)), (g4, .cells #[.slice A fs.length c, .int .i64 hand] 24 (0, 0))] ++ F) := hO6
    refine ldr24 e0 e1 ⟨fs, hand, A, c, F, hG, rfl, hF, hO6.sub (List.sublist_append_right _ F), hU6⟩
  refine ⟨fun hlt => ⟨fun h80 => ?_, fun _ => fin⟩, fun _ => fin⟩
  clear fin
  have hlt' : i < l.length := by omega
  rw [ld24 d0 d1]
  refine st_alloc ze24 hU5 hO5 ?_
  intro g8 w6 hU6 hO6 hg8
  refine st_ring hU6 hO6 0 rfl rfl rfl (.inr hg8) ?_
  intro w7 hU7 hO7 _ _
  clear hU5 hO5 hU6 hO6 d0 d1
  have hO7 : Owns w7 ([(g8, .cells #[.slice A fs.length c, .int .i64 hand] 24 (0, 0)), (g5, .cells #[.slice A fs.length c, .int .i64 hand] 24 (0, 0)), (g4, .cells #[.slice none 0 0, .int .i64 0] 24 (0, 0))] ++ F) := hO7
  obtain ⟨a, rfl, hc⟩ := hrd.row askV_len (by decide) hlt'
  have k0 := hc w7 hU7 0 _ rfl
  rw [step_run (run_idxS u40 sz34 (by omega) (by omega))]
  simp (disch := first | assumption | omega) only [PX, BX, LX, Nat.add_zero]
  let hb := [(g8, Obj.cells #[.slice A fs.length c, .int .i64 hand] 24 (0, 0)), (g5, .cells #[.slice A fs.length c, .int .i64 hand] 24 (0, 0)), (g4, .cells #[.slice none 0 0, .int .i64 0] 24 (0, 0))] ++ F
  have hS : SU W hb w7.drew := SU.drew hU7 hO7
  have hne : ∃ w', SU W hb w' := ⟨_, hS⟩
  have d0 : ∀ w', SU W hb w' → w'.cell? ⟨g5, 0, none⟩ = some (.slice A fs.length c) := fun w' h => cell_at (h.2.at_ 1 rfl)
  have d1 : ∀ w', SU W hb w' → w'.cell? ⟨g5, 1, none⟩ = some (.int .i64 hand) := fun w' h => cell_at (h.2.at_ 1 rfl)
  have k1 : ∀ w', SU W hb w' → w'.cell? (a.add (((i : Nat) : Int).toNat * 3 + 1)) = some (.int .i64 l[i].page) := fun w' h => hc w' h.1 1 _ rfl
  have k2 : ∀ w', SU W hb w' → w'.cell? (a.add (((i : Nat) : Int).toNat * 3 + 2)) = some (.int .i64 l[i].n) := fun w' h => hc w' h.1 2 _ rfl
  obtain ⟨_, _, n2⟩ := hl _ (List.getElem_mem hlt')
  have sidx : ∀ {k : Value → Prop}, (std Try.prog).stepS (SU W hb) (sIndexAddr 40 (.slice (some a) l.length cb) (.int .i64 (i : Nat))) k = k (.pointer (some (a.add (((i : Nat) : Int).toNat * 3)))) := fun {k} => stepS_run hne fun w' hw => run_idxS u40 sz34 (by omega) (by omega)
  refine ⟨fun _ => ?_, fun _ => ⟨fun _ => ?_, fun _ => ⟨fun _ => ?_, fun _ => ⟨fun _ => ?_, fun _ => ?_⟩⟩⟩⟩
  · refine st_draw (SU W hb) hS ?_
    rw [sld24 hne d0 d1]
    simp (disch := first | assumption | omega) only [sidx, SX, SLX, add_add']
    refine st_call (Put_spec _ _ fs hand l[i].page (hF.at_ hS.2 hand)) fun r w8 hE => ?_
    exact made_after hg4 hg5 hg8 hlm e0 hlt' hG hF (good_put _ _ _) hS.1 hS.2 hE
  · refine st_draw (SU W hb) hS ?_
    rw [sld24 hne d0 d1]
    simp (disch := first | assumption | omega) only [sidx, SX, SLX, add_add']
    refine st_call (Drop_spec _ _ fs hand l[i].page (hF.at_ hS.2 hand)) fun r w8 hE => ?_
    exact made_after hg4 hg5 hg8 hlm e0 hlt' hG hF (good_drop _ _ _) hS.1 hS.2 hE
  · refine st_draw (SU W hb) hS ?_
    rw [sld24 hne d0 d1]
    simp (disch := first | assumption | omega) only [sidx, SX, SLX, add_add']
    refine st_call (Touch_spec _ _ fs hand l[i].page (hF.at_ hS.2 hand)) fun r w8 hE => ?_
    exact made_after hg4 hg5 hg8 hlm e0 hlt' hG hF (good_touch _ _ _) hS.1 hS.2 hE
  · refine st_draw (SU W hb) hS ?_
    rw [sld24 hne d0 d1]
    simp (disch := first | assumption | omega) only [sidx, SX, SLX, add_add']
    refine st_call (Pin_spec _ _ fs hand l[i].page l[i].n n2.1 n2.2 (hF.at_ hS.2 hand)) fun r w8 hE => ?_
    exact made_after hg4 hg5 hg8 hlm e0 hlt' hG hF (good_pin _ _ _ _) hS.1 hS.2 hE
  · have d0 : w7.cell? ⟨g5, 0, none⟩ = some (.slice A fs.length c) := cell_at (hO7.at_ 1 rfl)
    have d1 : w7.cell? ⟨g5, 1, none⟩ = some (.int .i64 hand) := cell_at (hO7.at_ 1 rfl)
    rw [ld24 d0 d1]
    refine st_call (Next_spec _ _ fs hand (hF.at_ hO7 hand)) fun r w8 hE => ?_
    obtain ⟨A', c', hd, e, i', fs', F', rfl, hU8, hF', hOF, hres⟩ := nextE_out hE
    have hO8 := owns_join hO7 hU8 hF' hOF
    have hU8 := hU7.trans hU8
    rw [px_ext30, px_ext31, px_ext32]
    refine st_ring hU8 hO8 0 rfl rfl rfl (.inr hg8) ?_
    intro w9 hU9 hO9 _ _
    refine made_tail hg4 hg5 hlm e0 hlt' hG hF (good_next fs hand) hU9 hO9 hU7.size hF' ?_
    rcases hres with h | ⟨rfl, h', rfl, h⟩
    · exact .inl (by rw [h]; rfl)
    · exact .inr ⟨rfl, by rw [h]; rfl⟩

theorem made_spec (W : World) (n : Int) (v : Value) (l : List Ask) (hr : RdS W askV 3 v l) (hl : ∀ o ∈ l, in64 o.kind ∧ in64 o.page ∧ in64 o.n) :
    CallsR Try.prog 15 #[.int .i64 n, v] W fun r w' => ∃ fs hand, GoodN n fs hand ∧ RingAt w' r fs hand ∧ Upd W w' [] :=
  (made_own W n v l hr hl).mono fun r w' ⟨fs, hand, A, c, F, h1, h2, h3, h4, h5⟩ => ⟨fs, hand, h1, by rw [h2]; exact h3.at_ (h := []) h4 hand, h5⟩
end Go.Proofs.Ytnghnolpohahpaa
