/- One call on both, II; the laws about any ring, and about plays. -/
import Derived.Test.YtnghnolpohahpaaS21
namespace Go.Proofs.Ytnghnolpohahpaa
open Go Xf Go.RowKit Go.ChangeShapes Go.WideShapes Go.Deep
set_option linter.unusedVariables false
set_option linter.unusedSimpArgs false
set_option maxRecDepth 100000

theorem one_k1 {W w : World} {ks : List Nat} {g2 g3 g4 g6 g7 g9 : Nat} {fs : List Fr} {hand : Int} {o : Ask} {A Am : Option Addr} {c cm : Nat} (hg4 : W.heap.size ≤ g4) (hg7 : W.heap.size ≤ g7) (hg9 : W.heap.size ≤ g9) (hUW : Upd W w []) (hon : in64 o.n)
    (hks : ∀ k ∈ ks ++ [g4, g7, g9], k < w.heap.size)
    (hO : Owns w (OneH g2 g3 g4 g6 g7 g9 o (cellsR A fs.length c hand) (cellsR A fs.length c hand) (cellsR Am fs.length cm hand) (cellsR none 0 0 0) (cellsR A fs.length c hand)))
    (hKm : RingK w (ks ++ [g4, g7, g9]) (.agg #[.slice Am fs.length cm, .int .i64 hand]) fs hand) (hKr : RingK w (ks ++ [g4, g7, g9]) (.agg #[.slice A fs.length c, .int .i64 hand]) fs hand) :
    flotillalaw14_one_k1 (std Try.prog) (.pointer (some ⟨g2, 0, none⟩)) (.pointer (some ⟨g3, 0, none⟩)) (.pointer (some ⟨g4, 0, none⟩)) (.pointer (some ⟨g6, 0, none⟩)) (.pointer (some ⟨g7, 0, none⟩)) (.pointer (some ⟨g9, 0, none⟩)) w (OneQ W ks fs hand o) := by
  unfold flotillalaw14_one_k1
  have m0 : w.cell? ⟨g6, 0, none⟩ = some (.slice Am fs.length cm) := cell_at (hO.at_ 2 rfl)
  have m1 : w.cell? ⟨g6, 1, none⟩ = some (.int .i64 hand) := cell_at (hO.at_ 2 rfl)
  have o0 : w.cell? ⟨g3, 0, none⟩ = some (.int .i64 o.kind) := cell_at (hO.at_ 4 rfl)
  have o1 : w.cell? ⟨g3, 1, none⟩ = some (.int .i64 o.page) := cell_at (hO.at_ 4 rfl)
  have o2 : w.cell? ⟨g3, 2, none⟩ = some (.int .i64 o.n) := cell_at (hO.at_ 4 rfl)
  have in7 : g7 ∈ ks ++ [g4, g7, g9] := by simp
  have in9 : g9 ∈ ks ++ [g4, g7, g9] := by simp
  simp (disch := first | assumption | omega) only [PX, BX, LX, ld24, add_mk, Nat.zero_add]
  -- the document's part, in the world behind the program's
  have later : ∀ {w2 : World} {gs : List Fr} {hd : Int} {A' : Option Addr} {c' : Nat}, Owns w2 ((OneH g2 g3 g4 g6 g7 g9 o (cellsR A fs.length c hand) (cellsR A fs.length c hand) (cellsR Am fs.length cm hand) (cellsR none 0 0 0) (cellsR A fs.length c hand)).set 1 (g7, .cells #[.slice A' gs.length c', .int .i64 hd] 24 (0, 0))) → w2.cell? ⟨g2, 0, none⟩ = some (.slice A fs.length c) ∧ w2.cell? ⟨g2, 1, none⟩ = some (.int .i64 hand) ∧ w2.cell? ⟨g3, 1, none⟩ = some (.int .i64 o.page) ∧ w2.cell? ⟨g3, 2, none⟩ = some (.int .i64 o.n) :=
    fun h => ⟨cell_at (h.at_ 5 rfl), cell_at (h.at_ 5 rfl), cell_at (h.at_ 4 rfl), cell_at (h.at_ 4 rfl)⟩
  have size2 : ∀ {w2 : World}, Upd w w2 (ks ++ [g4, g7, g9]) → ∀ k ∈ ks ++ [g4, g7, g9], k < w2.heap.size := fun h k hk => Nat.lt_of_lt_of_le (hks k hk) h.size
  refine ⟨fun hkd => ?_, fun h0 => ⟨fun hkd => ?_, fun h1 => ⟨fun hkd => ?_, fun h2 => ⟨fun hkd => ?_, fun h3 => ?_⟩⟩⟩⟩
  · have hR : askR fs hand o = putR fs hand o.page := by unfold askR; rw [if_pos hkd]
    refine st_call (Put_spec w _ fs hand o.page hKm.at_) fun rp w1 hE => ?_
    refine one_store hUW hO (refE_of hE) 1 rfl hg7 hks in7 fun e gs hd A' c' w2 hc hUW2 hU2 hK2 hO2 => ?_
    obtain ⟨r0, r1, o1, o2⟩ := later hO2
    simp (disch := first | assumption | omega) only [PX, LX, ld24, add_mk, Nat.zero_add]
    refine st_call (refPut_spec w2 _ fs hand o.page (hKr.mono hU2).at_) fun rr w3 hE' => ?_
    refine one_store hUW2 hO2 hE' 0 rfl hg9 (size2 hU2) in9 fun e' gs' hd' A'' c'' w4 hc' hUW4 hU4 hK4 hO4 => ?_
    obtain ⟨rfl, rfl, rfl⟩ := hc.same hc'
    exact one_k2 (i := 0) hg4 hUW4 hO4 (hK2.mono hU4) hK4 (hKm.mono (hU2.trans hU4)) (hKr.mono (hU2.trans hU4)) (by rw [hR]; exact hc)
  · have hR : askR fs hand o = changeR fs hand o.page dropF := by unfold askR; rw [if_neg h0, if_pos hkd]
    refine st_call (Drop_spec w _ fs hand o.page hKm.at_) fun rp w1 hE => ?_
    refine one_store hUW hO (refE_of hE) 1 rfl hg7 hks in7 fun e gs hd A' c' w2 hc hUW2 hU2 hK2 hO2 => ?_
    obtain ⟨r0, r1, o1, o2⟩ := later hO2
    simp (disch := first | assumption | omega) only [PX, LX, ld24, add_mk, Nat.zero_add]
    refine st_call (refDrop_spec w2 _ fs hand o.page (hKr.mono hU2).at_) fun rr w3 hE' => ?_
    refine one_store hUW2 hO2 hE' 0 rfl hg9 (size2 hU2) in9 fun e' gs' hd' A'' c'' w4 hc' hUW4 hU4 hK4 hO4 => ?_
    obtain ⟨rfl, rfl, rfl⟩ := hc.same hc'
    exact one_k2 (i := 0) hg4 hUW4 hO4 (hK2.mono hU4) hK4 (hKm.mono (hU2.trans hU4)) (hKr.mono (hU2.trans hU4)) (by rw [hR]; exact hc)
  · have hR : askR fs hand o = changeR fs hand o.page touchF := by unfold askR; rw [if_neg h0, if_neg h1, if_pos hkd]
    refine st_call (Touch_spec w _ fs hand o.page hKm.at_) fun rp w1 hE => ?_
    refine one_store hUW hO (refE_of hE) 1 rfl hg7 hks in7 fun e gs hd A' c' w2 hc hUW2 hU2 hK2 hO2 => ?_
    obtain ⟨r0, r1, o1, o2⟩ := later hO2
    simp (disch := first | assumption | omega) only [PX, LX, ld24, add_mk, Nat.zero_add]
    refine st_call (refPin_spec w2 _ fs hand o.page 0 true (hKr.mono hU2).at_) fun rr w3 hE' => ?_
    rw [touch_same] at hE'
    refine one_store hUW2 hO2 hE' 0 rfl hg9 (size2 hU2) in9 fun e' gs' hd' A'' c'' w4 hc' hUW4 hU4 hK4 hO4 => ?_
    obtain ⟨rfl, rfl, rfl⟩ := hc.same hc'
    exact one_k2 (i := 0) hg4 hUW4 hO4 (hK2.mono hU4) hK4 (hKm.mono (hU2.trans hU4)) (hKr.mono (hU2.trans hU4)) (by rw [hR]; exact hc)
  · have hR : askR fs hand o = changeR fs hand o.page (pinF o.n) := by unfold askR; rw [if_neg h0, if_neg h1, if_neg h2, if_pos hkd]
    refine st_call (Pin_spec w _ fs hand o.page o.n hon.1 hon.2 hKm.at_) fun rp w1 hE => ?_
    refine one_store hUW hO (refE_of hE) 1 rfl hg7 hks in7 fun e gs hd A' c' w2 hc hUW2 hU2 hK2 hO2 => ?_
    obtain ⟨r0, r1, o1, o2⟩ := later hO2
    simp (disch := first | assumption | omega) only [PX, LX, ld24, add_mk, Nat.zero_add]
    refine st_call (refPin_spec w2 _ fs hand o.page o.n false (hKr.mono hU2).at_) fun rr w3 hE' => ?_
    rw [pin_same] at hE'
    refine one_store hUW2 hO2 hE' 0 rfl hg9 (size2 hU2) in9 fun e' gs' hd' A'' c'' w4 hc' hUW4 hU4 hK4 hO4 => ?_
    obtain ⟨rfl, rfl, rfl⟩ := hc.same hc'
    exact one_k2 (i := 0) hg4 hUW4 hO4 (hK2.mono hU4) hK4 (hKm.mono (hU2.trans hU4)) (hKr.mono (hU2.trans hU4)) (by rw [hR]; exact hc)
  · have hR : askR fs hand o = forgetI (nextR fs hand) := by unfold askR; rw [if_neg h0, if_neg h1, if_neg h2, if_neg h3]
    refine st_call (Next_spec w _ fs hand hKm.at_) fun rp w1 hE => ?_
    refine one_storeN hUW hO (refN_of hE) 1 rfl hg7 hks in7 fun e q gs hd A' c' w2 hc hq hUW2 hU2 hK2 hO2 => ?_
    obtain ⟨r0, r1, o1, o2⟩ := later hO2
    rw [ld24 r0 r1]
    refine st_call (refNext_spec w2 _ fs hand (hKr.mono hU2).at_) fun rr w3 hE' => ?_
    refine one_storeN hUW2 hO2 hE' 0 rfl hg9 (size2 hU2) in9 fun e' q' gs' hd' A'' c'' w4 hc' hq' hUW4 hU4 hK4 hO4 => ?_
    obtain ⟨rfl, rfl, rfl⟩ := hc.same hc'
    have : q = q' := by
      rcases hq with ⟨_, h1, rfl⟩ | ⟨p, h1, rfl⟩ <;> rcases hq' with ⟨_, h2, rfl⟩ | ⟨p', h2, rfl⟩
      · rfl
      · rw [h1] at h2; cases h2
      · rw [h1] at h2; cases h2
      · rw [h1] at h2; injection h2 with h2; rw [h2]
    subst this
    exact one_k2 hg4 hUW4 hO4 (hK2.mono hU4) hK4 (hKm.mono (hU2.trans hU4)) (hKr.mono (hU2.trans hU4)) (by rw [hR]; exact hc)

theorem one_spec (W : World) (ks : List Nat) (v : Value) (fs : List Fr) (hand : Int) (o : Ask) (hn : fs.length ≤ 1000) (hon : in64 o.n) (hks : ∀ k ∈ ks, k < W.heap.size) (hK : RingK W ks v fs hand) :
    CallsR Try.prog 12 #[v, .agg (askV o).toArray] W (OneQ W ks fs hand o) := by
  apply flotillalaw14_one_sound
  unfold flotillalaw14_one_x
  obtain ⟨A, c, rfl, hm, _⟩ := hK.at_
  refine st_box (Upd.refl W []) (Owns.nil W) ?_
  intro g2 w1 hU1 hO1 hg2
  refine st_box hU1 hO1 ?_
  intro g3 w2 hU2 hO2 hg3
  refine st_alloc ze24 hU2 hO2 ?_
  intro g4 w3 hU3 hO3 hg4
  have c0 : w3.cell? ⟨g2, 0, none⟩ = some (.slice A fs.length c) := cell_at (hO3.at_ 2 rfl)
  have c1 : w3.cell? ⟨g2, 1, none⟩ = some (.int .i64 hand) := cell_at (hO3.at_ 2 rfl)
  rw [ld24 c0 c1]
  refine st_call (copied_spec w3 _ fs hand hn (hK.mono (hU3.nil ks)).at_) ?_
  rintro m w4 ⟨hrm, hfm, hU4⟩
  have hO4 := hO3.ext hU4
  have hg43 : g4 < w3.heap.size := hO3.lt (List.mem_cons_self ..)
  have hks3 : ∀ k ∈ ks ++ [g4], k < w3.heap.size := fun k hk => by
    rcases List.mem_append.1 hk with hk | hk
    · exact Nat.lt_of_lt_of_le (hks k hk) hU3.size
    · simp at hk; subst hk; exact hg43
  have hKm := ringK_fresh (ks := ks ++ [g4]) hrm hfm hks3
  obtain ⟨Am, cm, rfl, hmm, _⟩ := hrm
  have hUW4 := hU3.trans hU4
  refine st_alloc ze24 (Upd.refl w4 []) hO4 ?_
  intro g6 w5 hU5 hO5 hg6
  refine st_ring hU5 hO5 0 rfl rfl rfl (.inr hg6) ?_
  intro w6 hU6 hO6 _ _
  have hO6 : Owns w6 [(g6, cellsR Am fs.length cm hand), (g4, cellsR none 0 0 0), (g3, .cells #[.int .i64 o.kind, .int .i64 o.page, .int .i64 o.n] 34 (0, 0)), (g2, cellsR A fs.length c hand)] := hO6
  generalize hH : [(g6, cellsR Am fs.length cm hand), (g4, cellsR none 0 0 0), (g3, Obj.cells #[.int .i64 o.kind, .int .i64 o.page, .int .i64 o.n] 34 (0, 0)), (g2, cellsR A fs.length c hand)] = H at *
  have hS7 : SU w4 H w6.drew := SU.drew hU6 hO6
  have hne : ∃ w', SU w4 H w' := ⟨_, hS7⟩
  have r0 : ∀ w', SU w4 H w' → w'.cell? ⟨g2, 0, none⟩ = some (.slice A fs.length c) := fun w' h => cell_at (h.2.at_ 3 (by rw [← hH]; rfl))
  have r1 : ∀ w', SU w4 H w' → w'.cell? ⟨g2, 1, none⟩ = some (.int .i64 hand) := fun w' h => cell_at (h.2.at_ 3 (by rw [← hH]; rfl))
  refine st_draw (SU w4 H) hS7 ?_
  simp only [sld24 hne r0 r1]
  have go : ∀ {w' : World} {g7 g9 : Nat}, Upd w4 w' [] → w4.heap.size ≤ g7 → w4.heap.size ≤ g9 → Owns w' ((g9, cellsR A fs.length c hand) :: (g7, cellsR A fs.length c hand) :: H) →
      flotillalaw14_one_k1 (std Try.prog) (.pointer (some ⟨g2, 0, none⟩)) (.pointer (some ⟨g3, 0, none⟩)) (.pointer (some ⟨g4, 0, none⟩)) (.pointer (some ⟨g6, 0, none⟩)) (.pointer (some ⟨g7, 0, none⟩)) (.pointer (some ⟨g9, 0, none⟩)) w' (OneQ W ks fs hand o) := by
    intro w' g7 g9 hU' hg7 hg9 hO'
    have hUW' := hUW4.trans hU'
    refine one_k1 (A := A) (Am := Am) (c := c) (cm := cm) hg4 (Nat.le_trans hUW4.size hg7) (Nat.le_trans hUW4.size hg9) hUW' hon ?_ (by rw [← hH] at hO'; exact hO') ?_ ?_
    · intro k hk
      rcases List.mem_append.1 hk with hk | hk
      · exact Nat.lt_of_lt_of_le (hks k hk) hUW'.size
      · simp at hk
        rcases hk with rfl | rfl | rfl
        · exact Nat.lt_of_lt_of_le hg43 (Nat.le_trans hU4.size hU'.size)
        · exact hO'.lt (.tail _ (List.mem_cons_self ..))
        · exact hO'.lt (List.mem_cons_self ..)
    · refine hKm.low hU' fun k hk => ?_
      rcases List.mem_append.1 hk with hk | hk
      · exact .inl (List.mem_append_left _ hk)
      · simp at hk
        rcases hk with rfl | rfl | rfl
        · exact .inl (by simp)
        · exact .inr hg7
        · exact .inr hg9
    · refine hK.low hUW' fun k hk => ?_
      rcases List.mem_append.1 hk with hk | hk
      · exact .inl hk
      · simp at hk
        rcases hk with rfl | rfl | rfl
        · exact .inr hg4
        · exact .inr (Nat.le_trans hUW4.size hg7)
        · exact .inr (Nat.le_trans hUW4.size hg9)
  constructor
  · refine st_alloc ze24 hS7.1 hS7.2 ?_
    intro g7 w8 hU8 hO8 hg7
    refine st_same ⟨hU8, hO8.sub (.cons _ (List.Sublist.refl _))⟩ ?_
    refine st_alloc ze24 hU8 hO8 ?_
    intro g9 w9 hU9 hO9 hg9
    refine st_same ⟨hU9, hO9.sub (.cons _ (.cons _ (List.Sublist.refl _)))⟩ ?_
    refine st_ring hU9 hO9 1 rfl rfl rfl (.inr hg7) ?_
    intro w10 hU10 hO10 _ _
    refine st_same ⟨hU10, hO10.sub (.cons _ (.cons _ (List.Sublist.refl _)))⟩ ?_
    refine st_ring hU10 hO10 0 rfl rfl rfl (.inr hg9) ?_
    intro w11 hU11 hO11 _ _
    refine st_keepT (fun _ => True) trivial ?_
    exact go hU11 hg7 hg9 hO11
  · refine st_alloc ze24 hS7.1 hS7.2 ?_
    intro g9 w8 hU8 hO8 hg9
    refine st_same ⟨hU8, hO8.sub (.cons _ (List.Sublist.refl _))⟩ ?_
    refine st_alloc ze24 hU8 hO8 ?_
    intro g7 w9 hU9 hO9 hg7
    refine st_same ⟨hU9, hO9.sub (.cons _ (.cons _ (List.Sublist.refl _)))⟩ ?_
    refine st_ring hU9 hO9 0 rfl rfl rfl (.inr hg7) ?_
    intro w10 hU10 hO10 _ _
    refine st_same ⟨hU10, hO10.sub (.cons _ (.cons _ (List.Sublist.refl _)))⟩ ?_
    refine st_ring hU10 hO10 1 rfl rfl rfl (.inr hg9) ?_
    intro w11 hU11 hO11 _ _
    refine st_keepT (fun _ => True) trivial ?_
    exact go hU11 hg7 hg9 (hO11.perm (List.Perm.swap ..))

theorem ld34 {g : Nat} {o : Ask} {w : World} {K : Value → World → Prop} (h : w.heap[g]? = some (.cells #[.int .i64 o.kind, .int .i64 o.page, .int .i64 o.n] 34 (0, 0))) :
    (std Try.prog).step (sLoad 34 (.pointer (some ⟨g, 0, none⟩))) w K = K (.agg (askV o).toArray) w :=
  step_run (run_sLoad (run_loadVarN (cs := askV o) ag34 (by rw [sz34]; rfl) (cells_read h)))

theorem ClockAsks_spec (W : World) (v : Value) (fs : List Fr) (hand : Int) (o : Ask) (hr : RingAt W v fs hand) (hon : in64 o.n) :
    CallsR Try.prog 4 #[v, .agg (askV o).toArray] W fun r w' => r = .bool true ∧ Upd W w' [] := by
  apply flotillalaw14_ClockAsks_sound
  unfold flotillalaw14_ClockAsks_x
  have fin : ∀ w', Upd W w' [] → (std Try.prog).calls 10 #[] w' fun r w_1 => r = .bool true ∧ Upd W w_1 [] := fun w' hU => st_call (lives_spec w') fun v w4 h => ⟨h.1, hU.trans h.2⟩
  have hr' := hr
  obtain ⟨A, c, rfl, hm, hrd⟩ := hr'
  refine st_box (Upd.refl W []) (Owns.nil W) ?_
  intro g2 w1 hU1 hO1 hg2
  refine st_box hU1 hO1 ?_
  intro g3 w2 hU2 hO2 hg3
  have c0 : w2.cell? ⟨g2, 0, none⟩ = some (.slice A fs.length c) := cell_at (hO2.at_ 1 rfl)
  have c1 : w2.cell? ⟨g2, 1, none⟩ = some (.int .i64 hand) := cell_at (hO2.at_ 1 rfl)
  simp (disch := first | assumption | omega) only [PX, BX, LX, ld24]
  refine ⟨fun hbig => ?_, fun hsm => ?_⟩
  · refine st_call (Check_spec w2 _ fs hand (hr.mono hU2)) ?_
    rintro _ w3 ⟨rfl, hU3⟩
    rw [if_neg (fun h : May fs hand => by have := h.2.1; omega)]
    simp (disch := first | assumption | omega) only [PX, BX]
    exact ⟨fun _ => fin _ (hU2.trans hU3), fun h => absurd rfl h⟩
  · rw [ld34 (o := o) (hO2.at_ 0 rfl)]
    refine st_call (one_spec w2 [] _ fs hand o (by omega) hon (fun k hk => by cases hk) (hr.mono hU2).k) ?_
    rintro _ w3 ⟨x, rfl, hKx, hU3⟩
    have hO3 := hO2.ext hU3
    have hU3 := hU2.trans hU3
    rw [px_ext20, px_ext21]
    obtain ⟨A', c', rfl, _, _⟩ := hKx.at_
    refine st_alloc ze24 hU3 hO3 ?_
    intro g5 w4 hU4 hO4 hg5
    refine st_ring hU4 hO4 0 rfl rfl rfl (.inr hg5) ?_
    intro w5 hU5 hO5 _ _
    let H := [(g3, Obj.cells #[.int .i64 o.kind, .int .i64 o.page, .int .i64 o.n] 34 (0, 0)), (g2, Obj.cells #[.slice A fs.length c, .int .i64 hand] 24 (0, 0))]
    have hS : SU W H w5.drew := SU.drew hU5 (hO5.sub (.cons _ (List.Sublist.refl _)))
    have hne : ∃ w', SU W H w' := ⟨_, hS⟩
    have c0 : ∀ w', SU W H w' → w'.cell? ⟨g2, 0, none⟩ = some (.slice A fs.length c) := fun w' h => cell_at (h.2.at_ 1 rfl)
    have c1 : ∀ w', SU W H w' → w'.cell? ⟨g2, 1, none⟩ = some (.int .i64 hand) := fun w' h => cell_at (h.2.at_ 1 rfl)
    refine st_draw (SU W H) hS ?_
    simp only [BX, sld24 hne c0 c1]
    refine st_call (copied_spec _ _ fs hand (by omega) (hr.mono hS.1)) ?_
    rintro m w6 ⟨hrm, _, hU6⟩
    have hS6 : SU W H w6 := ⟨hS.1.trans hU6, hS.2.ext hU6⟩
    refine st_same hS6 ?_
    refine st_call (Check_spec w6 _ fs hand hrm) ?_
    rintro _ w7 ⟨rfl, hU7⟩
    have hS7 : SU W H w7 := ⟨hS6.1.trans hU7, hS6.2.ext hU7⟩
    refine st_same hS7 ?_
    simp (disch := first | assumption | omega) only [SX]
    refine st_call (refMay_spec w7 _ fs hand (hr.mono hS7.1)) ?_
    rintro _ w8 ⟨rfl, hU8⟩
    have hS8 : SU W H w8 := ⟨hS7.1.trans hU8, hS7.2.ext hU8⟩
    refine st_same hS8 ?_
    simp (disch := first | assumption | omega) only [SX, BX]
    rw [show (decide ((((if May fs hand then 0 else 1 : Nat) : Nat) : Int) = 0) == decide (May fs hand)) = true by by_cases h : May fs hand <;> simp [h], bool_true]
    refine st_call (lives_spec w8) fun v w9 h => ?_
    exact st_keepT (fun _ => True) trivial ⟨h.1, hS8.1.trans h.2⟩

theorem one_may {fs : List Fr} {hand : Int} {o : Ask} (h : May fs hand) : May (oneR fs hand o).1 (oneR fs hand o).2 := by
  unfold oneR
  cases hx : askR fs hand o with
  | inl e => exact h
  | inr p => exact ((good_ask fs hand o).2 p.1 p.2 hx).2.1

theorem ClockPlays_spec (W : World) (n : Int) (v : Value) (l : List Ask) (hr : RdS W askV 3 v l) (hl : ∀ o ∈ l, in64 o.kind ∧ in64 o.page ∧ in64 o.n) :
    CallsR Try.prog 5 #[.int .i64 n, v] W fun r w' => r = .bool true ∧ Upd W w' [] := by
  apply flotillalaw14_ClockPlays_sound
  unfold flotillalaw14_ClockPlays_x
  have fin : ∀ w', Upd W w' [] → (std Try.prog).calls 10 #[] w' fun r w_1 => r = .bool true ∧ Upd W w_1 [] := fun w' hU => st_call (lives_spec w') fun v w4 h => ⟨h.1, hU.trans h.2⟩
  obtain ⟨B, cb, rfl, hlm, hrd⟩ := hr
  refine st_call (New_spec W n) fun r w1 hE => ?_
  obtain ⟨x, e, gs, hd, rfl, hr1, _, hU1, hc⟩ := refE_of hE
  rw [px_ext20, px_ext21]
  have hr1' := hr1
  obtain ⟨A, c, rfl, hm, _⟩ := hr1'
  refine st_alloc ze24 (Upd.refl w1 []) (Owns.nil w1) ?_
  intro g5 w2 hU2 hO2 hg5
  refine st_ring hU2 hO2 0 rfl rfl rfl (.inr hg5) ?_
  intro w3 hU3 hO3 _ _
  have hUW3 := hU1.trans hU3
  have hg5W : W.heap.size ≤ g5 := Nat.le_trans hU1.size hg5
  simp (disch := first | assumption | omega) only [PX, BX, flotillalaw14_ClockPlays_k1]
  unfold newR at hc
  by_cases hn : n < 1 ∨ 16 < n
  · rw [if_pos hn] at hc
    obtain ⟨rfl⟩ : e = 1 := by
      rcases hc with ⟨h, _⟩ | ⟨_, h⟩
      · injection h with h; exact h.symm
      · cases h
    refine ⟨fun _ => ⟨fun _ => fin _ hUW3, fun h1 => ⟨fun _ => fin _ hUW3, fun h2 => absurd hn (by omega)⟩⟩, fun h => absurd (by decide) h⟩
  rw [if_neg hn] at hc
  obtain ⟨rfl, h2⟩ : e = 0 ∧ (Sum.inr (newK n.toNat n.toNat, (0 : Int)) : Nat ⊕ (List Fr × Int)) = .inr (gs, hd) := by
    rcases hc with ⟨h, _⟩ | h
    · cases h
    · exact h
  injection h2 with h2
  injection h2 with ha hb
  subst ha hb
  refine ⟨fun h => absurd rfl h, fun _ => ?_⟩
  have hmay0 := may_new n.toNat (by omega) (by omega)
  generalize newK n.toNat n.toNat = gs at *
  refine st_loop (fun vs w' => ∃ (i : Nat) (gs : List Fr) (hd : Int) (A : Option Addr) (c : Nat), i ≤ l.length ∧ vs.getD 3 undef = .int .i64 i ∧ May gs hd ∧ Upd W w' [] ∧ Owns w' [(g5, .cells #[.slice A gs.length c, .int .i64 hd] 24 (0, 0))] ∧ RingK w' [g5] (.agg #[.slice A gs.length c, .int .i64 hd]) gs hd) (fun vs _ => l.length - (intOf (vs.getD 3 undef)).toNat)
    ⟨0, gs, 0, A, c, by omega, rfl, hmay0, hUW3, hO3, hr1.k.low hU3 fun k hk => .inr (by simp at hk; subst hk; exact hg5)⟩ ?_
  clear hr1 hO3 hU3 hUW3 hU2 hO2 hmay0 hE hm
  rintro dv vs w4 - ⟨i, gs, hd, A, c, hi, e3, hmay, hU4, hO4, hK4⟩
  simp (disch := omega) only [PX, BX, e3, flotillalaw14_ClockPlays_k2]
  refine ⟨fun hlt => ⟨fun h120 => ?_, fun _ => fin _ hU4⟩, fun _ => fin _ hU4⟩
  have hlt' : i < l.length := by omega
  obtain ⟨a, rfl, hcell⟩ := hrd.row askV_len (by decide) hlt'
  let H := [(g5, Obj.cells #[.slice A gs.length c, .int .i64 hd] 24 (0, 0))]
  have hS : SU W H w4.drew := SU.drew hU4 hO4
  have hne : ∃ w', SU W H w' := ⟨_, hS⟩
  have c0 : ∀ w', SU W H w' → w'.cell? ⟨g5, 0, none⟩ = some (.slice A gs.length c) := fun w' h => cell_at (h.2.at_ 0 rfl)
  have c1 : ∀ w', SU W H w' → w'.cell? ⟨g5, 1, none⟩ = some (.int .i64 hd) := fun w' h => cell_at (h.2.at_ 0 rfl)
  refine st_draw (SU W H) hS ?_
  rw [sld24 hne c0 c1, stepS_run hne fun w' hw => run_idxS u40 sz34 (by omega) (by omega)]
  rw [stepS_run hne fun w' hw => run_sLoad (run_loadVarN (cs := askV l[i]) ag34 (by rw [sz34]; rfl) fun j u hj => by rw [add_add']; exact hcell w' hw.1 j u hj)]
  have hon := (hl _ (List.getElem_mem hlt')).2.2
  have hn16 := hmay.2.1
  have hg5lt : g5 < w4.heap.size := hO4.lt (List.mem_cons_self ..)
  -- behind the call
  have go : ∀ {w6 : World} {g8 : Nat} {A' : Option Addr} {c' : Nat}, g5 ≠ g8 → Upd W w6 [] → W.heap.size ≤ g8 → Owns w6 [(g8, .cells #[.slice A' (oneR gs hd l[i]).1.length c', .int .i64 (oneR gs hd l[i]).2] 24 (0, 0)), (g5, .cells #[.slice A gs.length c, .int .i64 hd] 24 (0, 0))] → RingK w6 [g5] (.agg #[.slice A' (oneR gs hd l[i]).1.length c', .int .i64 (oneR gs hd l[i]).2]) (oneR gs hd l[i]).1 (oneR gs hd l[i]).2 →
      flotillalaw14_ClockPlays_k3 (std Try.prog) (.pointer (some ⟨g5, 0, none⟩)) vs (fun vs' w' => (∃ (i : Nat) (gs : List Fr) (hd : Int) (A : Option Addr) (c : Nat), i ≤ l.length ∧ vs'.getD 3 undef = .int .i64 i ∧ May gs hd ∧ Upd W w' [] ∧ Owns w' [(g5, .cells #[.slice A gs.length c, .int .i64 hd] 24 (0, 0))] ∧ RingK w' [g5] (.agg #[.slice A gs.length c, .int .i64 hd]) gs hd) ∧ l.length - (intOf (vs'.getD 3 undef)).toNat < l.length - (intOf (.int .i64 (i : Nat))).toNat) (.pointer (some ⟨g8, 0, none⟩)) (.bool true) w6 fun r w' => r = .bool true ∧ Upd W w' [] := by
    intro w6 g8 A' c' hne58 hU6 hg8 hO6 hK6
    unfold flotillalaw14_ClockPlays_k3
    have d0 : w6.cell? ⟨g8, 0, none⟩ = some (.slice A' (oneR gs hd l[i]).1.length c') := cell_at (hO6.at_ 0 rfl)
    have d1 : w6.cell? ⟨g8, 1, none⟩ = some (.int .i64 (oneR gs hd l[i]).2) := cell_at (hO6.at_ 0 rfl)
    simp (disch := first | assumption | omega) only [PX, BX, ld24, Bool.not_true]
    refine st_call (Check_spec w6 _ _ _ hK6.at_) ?_
    rintro _ w7 ⟨rfl, hU7⟩
    rw [if_pos (one_may hmay)]
    have hO7 := hO6.ext hU7
    have d0 : w7.cell? ⟨g8, 0, none⟩ = some (.slice A' (oneR gs hd l[i]).1.length c') := cell_at (hO7.at_ 0 rfl)
    have d1 : w7.cell? ⟨g8, 1, none⟩ = some (.int .i64 (oneR gs hd l[i]).2) := cell_at (hO7.at_ 0 rfl)
    simp (disch := first | assumption | omega) only [PX, BX, ld24]
    refine ⟨fun h => absurd rfl h, fun _ => ?_⟩
    refine st_ring (Upd.refl w7 [g5]) hO7 1 rfl rfl rfl (.inl (by simp)) ?_
    intro w8 hU8 hO8 _ _
    simp (disch := first | assumption | omega) only [PX, e3, w64]
    refine ⟨⟨i + 1, _, _, A', c', by omega, rfl, one_may hmay, (hU6.trans hU7).then_ hU8 fun x hx => .inr (by simp at hx; subst hx; exact hg5W), hO8.sub (.cons _ (List.Sublist.refl _)), (hK6.mono (hU7.nil [g5])).mono hU8⟩, ?_⟩
    simp only [List.getD_cons_succ, List.getD_cons_zero, intOf]; omega
  have hKd : RingK w4.drew [g5] (.agg #[.slice A gs.length c, .int .i64 hd]) gs hd := hK4.mono (Upd.drew w4 [g5])
  constructor
  · refine st_call (one_spec _ [g5] _ gs hd l[i] (by omega) hon (fun k hk => by simp at hk; subst hk; exact hg5lt) hKd) ?_
    rintro _ w5 ⟨x, rfl, hKx, hU5⟩
    have hO5 := hS.2.ext hU5
    have hUW5 := hS.1.trans hU5
    have hne5 : ∃ w', Upd W w' [] := ⟨_, hUW5⟩
    refine st_keepT (fun w' => Upd W w' []) hUW5 ?_
    rw [sx_ext20 hne5, sx_ext21 hne5]
    obtain ⟨A', c', rfl, _, _⟩ := hKx.at_
    refine st_alloc ze24 (Upd.refl w5 []) hO5 ?_
    intro g8 w6 hU6 hO6 hg8
    refine st_same (hUW5.trans hU6) ?_
    refine st_ring hU6 hO6 0 rfl rfl rfl (.inr hg8) ?_
    intro w7 hU7 hO7 _ _
    refine st_same (hUW5.trans hU7) ?_
    refine go ?_ (hUW5.trans hU7) (Nat.le_trans hUW5.size hg8) hO7 (hKx.mono (hU7.nil [g5]))
    have := hO5.lt (p := (g5, _)) (List.mem_cons_self ..)
    simp at this; omega
  · refine st_alloc ze24 (Upd.refl w4.drew []) hS.2 ?_
    intro g8 w5 hU5 hO5 hg8
    have hUW5 := hS.1.trans hU5
    have hKd := hKd.low (ls := [g5, g8]) hU5 fun k hk => by
      simp at hk
      rcases hk with rfl | rfl
      · exact .inl (by simp)
      · exact .inr hg8
    have hlt58 : ∀ k ∈ [g5, g8], k < w5.heap.size := fun k hk => by
      simp at hk
      rcases hk with rfl | rfl
      · exact hO5.lt (.tail _ (List.mem_cons_self ..))
      · exact hO5.lt (List.mem_cons_self ..)
    refine st_same ⟨hUW5, hO5.sub (.cons _ (List.Sublist.refl _))⟩ ?_
    refine st_call (one_spec _ [g5, g8] _ gs hd l[i] (by omega) hon hlt58 hKd) ?_
    rintro _ w6 ⟨x, rfl, hKx, hU6⟩
    have hO6 := hO5.ext hU6
    have hUW6 := hUW5.trans hU6
    have hne6 : ∃ w', Upd W w' [] := ⟨_, hUW6⟩
    refine st_keepT (fun w' => Upd W w' []) hUW6 ?_
    rw [sx_ext20 hne6, sx_ext21 hne6]
    obtain ⟨A', c', rfl, _, _⟩ := hKx.at_
    refine st_ring (Upd.refl w6 [g8]) hO6 0 rfl rfl rfl (.inl (by simp)) ?_
    intro w7 hU7 hO7 _ _
    have hWg8 : W.heap.size ≤ g8 := Nat.le_trans hS.1.size hg8
    have hUW7 : Upd W w7 [] := hUW6.then_ hU7 fun x hx => .inr (by simp at hx; subst hx; exact hWg8)
    refine st_same hUW7 ?_
    refine go ?_ hUW7 hWg8 hO7 ?_
    · have := hO5.1
      simp [H] at this
      intro h; exact this h.symm
    · have := hKx.mono (hU7.mono fun x hx => by simp at hx; subst hx; simp)
      exact fun w' hU' => this w' (hU'.mono fun x hx => by simp at hx; subst hx; simp)

section
variable {H : Type} {enc : TypeId × Value → H} {w : World} {held : Bool}
/-- a ring that is handed in -/
theorem ring_of_trod {r : Reach} {b0 : Nat} {v : Value} {d : DataW H} {p : List MemPlace} (hv : Value.okWide Try.prog w r b0 24 v) (h : DataW.Trod enc Try.prog w 0 (fun _ => true) held 24 v d p) : ∃ x : List Fr × Int, v = v ∧ RingAt w v x.1 x.2 := by
  obtain ⟨row, rfl, hl, hi⟩ := open_fields Try.underlying24 (by kernel_rfl) (by kernel_rfl) hv h
  obtain ⟨v0, y0, n0, e0, t0⟩ := hi 0 _ rfl
  obtain ⟨v1, y1, n1, e1, t1⟩ := hi 1 _ rfl
  obtain ⟨hd, h1, _, _⟩ := Go.DataW.trod_int Try.underlying3 t1
  have hfr : ∀ row : List Value, RowOk [.int .i64, .bool, .int .i64] row → ∃ f, row = frV f ∧ True := by
    rintro row ⟨hl, hk⟩
    obtain ⟨_, a0, n0, rfl, _⟩ := hk 0 _ rfl
    obtain ⟨_, a1, n1, rfl⟩ := hk 1 _ rfl
    obtain ⟨_, a2, n2, rfl, _⟩ := hk 2 _ rfl
    refine ⟨⟨n0, n1, n2⟩, ?_, trivial⟩
    match row, hl with
    | [a, b, c], _ => simp at a0 a1 a2; subst a0 a1 a2; rfl
  obtain ⟨fs, ⟨A, c, rfl, hm, hrd⟩, _⟩ := structs_of_trod (fun _ => rfl) hfr Try.underlying22 Try.underlying31 (by kernel_rfl) (by kernel_rfl) (by kernel_rfl) t0
  refine ⟨(fs, hd), rfl, A, c, ?_, hm, hrd⟩
  match row, hl with
  | [a, b], _ => simp at e0 e1 h1; subst e0 e1 h1; rfl
end
end Go.Proofs.Ytnghnolpohahpaa
