/- One call on both; the laws about any ring, and about plays. -/
import Derived.Test.YtnghnolpohahpaaS20
namespace Go.Proofs.Ytnghnolpohahpaa
open Go Xf Go.RowKit Go.ChangeShapes Go.WideShapes Go.Deep
set_option linter.unusedVariables false
set_option linter.unusedSimpArgs false
set_option maxRecDepth 100000

noncomputable def askR (fs : List Fr) (hand : Int) (o : Ask) : Nat ⊕ (List Fr × Int) :=
  if o.kind = 0 then putR fs hand o.page else if o.kind = 1 then changeR fs hand o.page dropF else if o.kind = 2 then changeR fs hand o.page touchF else if o.kind = 3 then changeR fs hand o.page (pinF o.n) else forgetI (nextR fs hand)
theorem good_ask (fs : List Fr) (hand : Int) (o : Ask) : GoodR fs hand (askR fs hand o) := by
  unfold askR
  split
  · exact good_put _ _ _
  · split
    · exact good_drop _ _ _
    · split
      · exact good_touch _ _ _
      · split
        · exact good_pin _ _ _ _
        · exact good_next _ _
noncomputable def oneR (fs : List Fr) (hand : Int) (o : Ask) : List Fr × Int := match askR fs hand o with | .inl _ => (fs, hand) | .inr p => p

def RefC (R : Nat ⊕ (List Fr × Int)) (e : Nat) (gs : List Fr) (hd : Int) : Prop := (R = .inl e ∧ gs = [] ∧ hd = 0) ∨ (e = 0 ∧ R = .inr (gs, hd))
theorem RefC.same {R : Nat ⊕ (List Fr × Int)} {e e' : Nat} {gs gs' : List Fr} {hd hd' : Int} (h : RefC R e gs hd) (h' : RefC R e' gs' hd') : e = e' ∧ gs = gs' ∧ hd = hd' := by
  rcases h with ⟨h1, rfl, rfl⟩ | ⟨rfl, h1⟩ <;> rcases h' with ⟨h2, rfl, rfl⟩ | ⟨rfl, h2⟩
  · rw [h1] at h2; injection h2 with h2; exact ⟨h2, rfl, rfl⟩
  · rw [h1] at h2; cases h2
  · rw [h1] at h2; cases h2
  · rw [h1] at h2; injection h2 with h2; injection h2 with h2 h3; exact ⟨rfl, h2, h3⟩
theorem refE_of {w w' : World} {r : Value} {R : Nat ⊕ (List Fr × Int)} (h : RingE w w' r R) : RefE w w' r R := by
  cases R with
  | inl e => obtain ⟨rfl, hU⟩ := h; exact ⟨_, e, [], 0, rfl, ringZ_at _, ringZ_fresh _, hU, .inl ⟨rfl, rfl, rfl⟩⟩
  | inr p =>
    obtain ⟨g, x, hN, rfl⟩ := h
    refine ⟨_, 0, _, _, rfl, hN.at_, ?_, hN.2.2.2.1, .inr ⟨rfl, rfl⟩⟩
    intro a n c y he
    rw [hN.1] at he
    simp at he
    obtain ⟨⟨rfl, _⟩, _⟩ := he
    exact hN.2.2.2.2
theorem refN_of {w w' : World} {r : Value} {R : Nat ⊕ (Nat × List Fr × Nat)} (h : NextE w w' r R) : RefN w w' r R := by
  cases R with
  | inl e => obtain ⟨rfl, hU⟩ := h; exact ⟨_, e, 0, [], 0, rfl, ringZ_at _, ringZ_fresh _, hU, .inl ⟨rfl, rfl, rfl, rfl⟩⟩
  | inr p =>
    obtain ⟨g, x, hN, rfl⟩ := h
    refine ⟨_, 0, _, _, _, rfl, hN.at_, ?_, hN.2.2.2.1, .inr ⟨rfl, _, rfl, rfl⟩⟩
    intro a n c y he
    rw [hN.1] at he
    simp at he
    obtain ⟨⟨rfl, _⟩, _⟩ := he
    exact hN.2.2.2.2

/-- what a call gave is stored in a variable -/
theorem one_store {W w w1 : World} {KS : List Nat} {rp a b : Value} {R : Nat ⊕ (List Fr × Int)} {h : List (Nat × Obj)} {g : Nat} {K : Value → World → Prop} (hUW : Upd W w []) (hO : Owns w h) (hE : RefE w w1 rp R) (i : Nat) (hi : h[i]? = some (g, .cells #[a, b] 24 (0, 0))) (hg : W.heap.size ≤ g) (hKS : ∀ k ∈ KS, k < w.heap.size) (hgK : g ∈ KS)
    (hk : ∀ (e : Nat) (gs : List Fr) (hd : Int) (A : Option Addr) (c : Nat) (w2 : World), RefC R e gs hd → Upd W w2 [] → Upd w w2 KS → RingK w2 KS (.agg #[.slice A gs.length c, .int .i64 hd]) gs hd → Owns w2 (h.set i (g, .cells #[.slice A gs.length c, .int .i64 hd] 24 (0, 0))) → K (.int .i64 (e : Nat)) w2) :
    (std Try.prog).step (sExtract rp 0) w1 fun a u => (std Try.prog).step (sExtract rp 1) u fun b u => (std Try.prog).step (sStore 24 (.pointer (some ⟨g, 0, none⟩)) a) u fun _ u => K b u := by
  obtain ⟨x, e, gs, hd, rfl, hr, hf, hU, hc⟩ := hE
  rw [px_ext20, px_ext21]
  have hK := ringK_fresh (ks := KS) hr hf hKS
  obtain ⟨A, c, rfl, _, _⟩ := hr
  refine st_ring (Upd.refl w1 [g]) (hO.ext hU) i hi rfl rfl (.inl (by simp)) ?_
  intro w2 hU2 hO2 _ _
  have hU2' : Upd w1 w2 KS := hU2.mono fun x hx => by simp at hx; subst hx; exact hgK
  exact hk e gs hd A c w2 hc ((hUW.trans hU).then_ hU2 fun x hx => .inr (by simp at hx; subst hx; exact hg)) ((hU.nil KS).trans hU2') (hK.mono hU2') hO2
theorem one_storeN {W w w1 : World} {KS : List Nat} {rp a b : Value} {R : Nat ⊕ (Nat × List Fr × Nat)} {h : List (Nat × Obj)} {g : Nat} {K : Value → Value → World → Prop} (hUW : Upd W w []) (hO : Owns w h) (hE : RefN w w1 rp R) (i : Nat) (hi : h[i]? = some (g, .cells #[a, b] 24 (0, 0))) (hg : W.heap.size ≤ g) (hKS : ∀ k ∈ KS, k < w.heap.size) (hgK : g ∈ KS)
    (hk : ∀ (e q : Nat) (gs : List Fr) (hd : Int) (A : Option Addr) (c : Nat) (w2 : World), RefC (forgetI R) e gs hd → ((∃ e, R = .inl e ∧ q = 0) ∨ ∃ p, R = .inr p ∧ q = p.1) → Upd W w2 [] → Upd w w2 KS → RingK w2 KS (.agg #[.slice A gs.length c, .int .i64 hd]) gs hd → Owns w2 (h.set i (g, .cells #[.slice A gs.length c, .int .i64 hd] 24 (0, 0))) → K (.int .i64 (q : Nat)) (.int .i64 (e : Nat)) w2) :
    (std Try.prog).step (sExtract rp 0) w1 fun q u => (std Try.prog).step (sExtract rp 1) u fun a u => (std Try.prog).step (sExtract rp 2) u fun b u => (std Try.prog).step (sStore 24 (.pointer (some ⟨g, 0, none⟩)) a) u fun _ u => K q b u := by
  obtain ⟨x, e, q, gs, hd, rfl, hr, hf, hU, hc⟩ := hE
  rw [px_ext30, px_ext31, px_ext32]
  have hK := ringK_fresh (ks := KS) hr hf hKS
  obtain ⟨A, c, rfl, _, _⟩ := hr
  refine st_ring (Upd.refl w1 [g]) (hO.ext hU) i hi rfl rfl (.inl (by simp)) ?_
  intro w2 hU2 hO2 _ _
  have hU2' : Upd w1 w2 KS := hU2.mono fun x hx => by simp at hx; subst hx; exact hgK
  refine hk e q gs hd A c w2 ?_ ?_ ((hUW.trans hU).then_ hU2 fun x hx => .inr (by simp at hx; subst hx; exact hg)) ((hU.nil KS).trans hU2') (hK.mono hU2') hO2
  · rcases hc with ⟨h1, h2, h3, h4⟩ | ⟨h1, h', h2, h3⟩
    · exact .inl ⟨by rw [h1]; rfl, h2, h3⟩
    · exact .inr ⟨h1, by rw [h3, h2]; rfl⟩
  · rcases hc with ⟨h1, h2, h3, h4⟩ | ⟨h1, h', h2, h3⟩
    · exact .inl ⟨e, h1, h4⟩
    · exact .inr ⟨_, h3, rfl⟩

def OneQ (W : World) (ks : List Nat) (fs : List Fr) (hand : Int) (o : Ask) (r : Value) (w' : World) : Prop :=
  ∃ x, r = .tuple #[x, .bool true] ∧ RingK w' ks x (oneR fs hand o).1 (oneR fs hand o).2 ∧ Upd W w' []

def cellsR (A : Option Addr) (n c : Nat) (hd : Int) : Obj := .cells #[.slice A n c, .int .i64 hd] 24 (0, 0)
def OneH (g2 g3 g4 g6 g7 g9 : Nat) (o : Ask) (y x m z r : Obj) : List (Nat × Obj) :=
  [(g9, y), (g7, x), (g6, m), (g4, z), (g3, .cells #[.int .i64 o.kind, .int .i64 o.page, .int .i64 o.n] 34 (0, 0)), (g2, r)]

theorem one_k2 {W w : World} {ks : List Nat} {g2 g3 g4 g6 g7 g9 e i : Nat} {fs gs : List Fr} {hand hx : Int} {o : Ask} {A Am Ax Ay : Option Addr} {c cm cx cy : Nat} (hg4 : W.heap.size ≤ g4) (hUW : Upd W w [])
    (hO : Owns w (OneH g2 g3 g4 g6 g7 g9 o (cellsR Ay gs.length cy hx) (cellsR Ax gs.length cx hx) (cellsR Am fs.length cm hand) (cellsR none 0 0 0) (cellsR A fs.length c hand)))
    (hKx : RingK w (ks ++ [g4, g7, g9]) (.agg #[.slice Ax gs.length cx, .int .i64 hx]) gs hx) (hKy : RingK w (ks ++ [g4, g7, g9]) (.agg #[.slice Ay gs.length cy, .int .i64 hx]) gs hx) (hKm : RingK w (ks ++ [g4, g7, g9]) (.agg #[.slice Am fs.length cm, .int .i64 hand]) fs hand) (hKr : RingK w (ks ++ [g4, g7, g9]) (.agg #[.slice A fs.length c, .int .i64 hand]) fs hand)
    (hC : RefC (askR fs hand o) e gs hx) :
    flotillalaw14_one_k2 (std Try.prog) (.pointer (some ⟨g2, 0, none⟩)) (.pointer (some ⟨g3, 0, none⟩)) (.pointer (some ⟨g4, 0, none⟩)) (.pointer (some ⟨g6, 0, none⟩)) (.pointer (some ⟨g7, 0, none⟩)) (.pointer (some ⟨g9, 0, none⟩)) (.int .i64 (i : Nat)) (.int .i64 (e : Nat)) (.int .i64 (i : Nat)) (.int .i64 (e : Nat)) w (OneQ W ks fs hand o) := by
  unfold flotillalaw14_one_k2
  generalize hH : OneH g2 g3 g4 g6 g7 g9 o (cellsR Ay gs.length cy hx) (cellsR Ax gs.length cx hx) (cellsR Am fs.length cm hand) (cellsR none 0 0 0) (cellsR A fs.length c hand) = H at *
  have x0 : ∀ w', SU w H w' → w'.cell? ⟨g7, 0, none⟩ = some (.slice Ax gs.length cx) := fun w' h => cell_at (h.2.at_ 1 (by rw [← hH]; rfl))
  have x1 : ∀ w', SU w H w' → w'.cell? ⟨g7, 1, none⟩ = some (.int .i64 hx) := fun w' h => cell_at (h.2.at_ 1 (by rw [← hH]; rfl))
  have y0 : ∀ w', SU w H w' → w'.cell? ⟨g9, 0, none⟩ = some (.slice Ay gs.length cy) := fun w' h => cell_at (h.2.at_ 0 (by rw [← hH]; rfl))
  have y1 : ∀ w', SU w H w' → w'.cell? ⟨g9, 1, none⟩ = some (.int .i64 hx) := fun w' h => cell_at (h.2.at_ 0 (by rw [← hH]; rfl))
  have m0 : ∀ w', SU w H w' → w'.cell? ⟨g6, 0, none⟩ = some (.slice Am fs.length cm) := fun w' h => cell_at (h.2.at_ 2 (by rw [← hH]; rfl))
  have m1 : ∀ w', SU w H w' → w'.cell? ⟨g6, 1, none⟩ = some (.int .i64 hand) := fun w' h => cell_at (h.2.at_ 2 (by rw [← hH]; rfl))
  have r0 : ∀ w', SU w H w' → w'.cell? ⟨g2, 0, none⟩ = some (.slice A fs.length c) := fun w' h => cell_at (h.2.at_ 5 (by rw [← hH]; rfl))
  have r1 : ∀ w', SU w H w' → w'.cell? ⟨g2, 1, none⟩ = some (.int .i64 hand) := fun w' h => cell_at (h.2.at_ 5 (by rw [← hH]; rfl))
  have o1 : ∀ w', SU w H w' → w'.cell? ⟨g3, 1, none⟩ = some (.int .i64 o.page) := fun w' h => cell_at (h.2.at_ 4 (by rw [← hH]; rfl))
  have hS1 : SU w H w.drew := SU.drew (Upd.refl w []) hO
  have hne : ∃ w', SU w H w' := ⟨_, hS1⟩
  have up : ∀ {w'}, SU w H w' → Upd w w' (ks ++ [g4, g7, g9]) := fun h => h.1.nil _
  refine st_draw (SU w H) hS1 ?_
  simp (disch := first | assumption | omega) only [SX, SLX, BX, sld24 hne x0 x1, sld24 hne y0 y1]
  refine ⟨fun h => absurd rfl h, fun _ => ⟨fun h => absurd rfl h, fun _ => ?_⟩⟩
  refine st_call (refSame_spec _ _ _ gs hx (hKx.mono (up hS1)).at_ (hKy.mono (up hS1)).at_) ?_
  rintro _ w2 ⟨rfl, hU2⟩
  have hS2 : SU w H w2 := ⟨hS1.1.trans hU2, hS1.2.ext hU2⟩
  refine st_keepT (SU w H) hS2 ?_
  simp (disch := first | assumption | omega) only [SX, SLX, BX, Bool.not_true, sld24 hne m0 m1, sld24 hne r0 r1]
  refine st_call (refSame_spec _ _ _ fs hand (hKm.mono (up hS2)).at_ (hKr.mono (up hS2)).at_) ?_
  rintro _ w3 ⟨rfl, hU3⟩
  have hS3 : SU w H w3 := ⟨hS2.1.trans hU3, hS2.2.ext hU3⟩
  refine st_keepT (SU w H) hS3 ?_
  simp (disch := first | assumption | omega) only [SX, SLX, BX, Bool.not_true, sld24 hne m0 m1, sld24 hne r0 r1, add_mk, Nat.zero_add]
  refine st_call (At_spec _ _ fs hand o.page (hKm.mono (up hS3)).at_) ?_
  rintro _ w4 ⟨rfl, hU4⟩
  have hS4 : SU w H w4 := ⟨hS3.1.trans hU4, hS3.2.ext hU4⟩
  refine st_same hS4 ?_
  refine st_call (refAt_spec _ _ fs hand o.page (hKr.mono (up hS4)).at_) ?_
  rintro _ w5 ⟨rfl, hU5⟩
  have hS5 : SU w H w5 := ⟨hS4.1.trans hU5, hS4.2.ext hU5⟩
  refine st_keepT (SU w H) hS5 ?_
  have hUW5 := hUW.trans hS5.1
  have x0 := x0 w5 hS5
  have x1 := x1 w5 hS5
  have r0 := r0 w5 hS5
  have r1 := r1 w5 hS5
  have hO5 := hS5.2
  simp (disch := first | assumption | omega) only [SX, PX, BX, ld24]
  have hi4 : H[3]? = some (g4, .cells #[.slice none 0 0, .int .i64 0] 24 (0, 0)) := by rw [← hH]; rfl
  have w4' : ∀ {w6}, Upd w5 w6 [g4] → Upd W w6 [] := fun h => hUW5.then_ h fun x hx => .inr (by simp at hx; subst hx; exact hg4)
  have k4 : ∀ {w6}, Upd w5 w6 [g4] → Upd w w6 (ks ++ [g4, g7, g9]) := fun h => (up hS5).trans (h.mono fun x hx => by simp at hx; subst hx; simp)
  have weak : ∀ {w6 : World} {v gs hd}, RingK w6 (ks ++ [g4, g7, g9]) v gs hd → RingK w6 ks v gs hd := fun h w' hU => h w' (hU.mono fun x hx => List.mem_append_left _ hx)
  refine ⟨fun h => absurd rfl h, fun _ => ⟨fun he => ?_, fun he => ?_⟩⟩
  · have hR : oneR fs hand o = (fs, hand) := by
      unfold oneR
      rcases hC with ⟨h1, _⟩ | ⟨h1, _⟩
      · rw [h1]
      · omega
    refine st_ring (Upd.refl w5 [g4]) hO5 3 hi4 rfl rfl (.inl (by simp)) ?_
    intro w6 hU6 hO6 e0 e1
    refine ldr24 e0 e1 ⟨_, rfl, ?_, w4' hU6⟩
    rw [hR]
    exact weak (hKr.mono (k4 hU6))
  · have hR : oneR fs hand o = (gs, hx) := by
      unfold oneR
      rcases hC with ⟨h1, _⟩ | ⟨_, h1⟩
      · exact absurd (by omega) ((good_ask fs hand o).1 e h1)
      · rw [h1]
    refine st_ring (Upd.refl w5 [g4]) hO5 3 hi4 rfl rfl (.inl (by simp)) ?_
    intro w6 hU6 hO6 e0 e1
    refine ldr24 e0 e1 ⟨_, rfl, ?_, w4' hU6⟩
    rw [hR]
    exact weak (hKx.mono (k4 hU6))

end Go.Proofs.Ytnghnolpohahpaa
