/- ClockTurns. -/
import Derived.Test.YtnghnolpohahpaaS15
namespace Go.Proofs.Ytnghnolpohahpaa
open Go Xf Go.RowKit
set_option linter.unusedVariables false
set_option linter.unusedSimpArgs false
set_option maxRecDepth 100000

theorem one_row (z : Int) (w : World) : (sBuildSlice 46 1 [(0, .int .i64 z)]).run Try.prog w = .ok (.value (.slice (some ⟨w.heap.size, 0, none⟩) 1 1)) (w.alloc (.cells #[.int .i64 z] 3)) := by kernel_rfl
def natsV (l : List Nat) : List Value := l.map fun n => .int .i64 (n : Nat)
theorem natsV_one (l : List Nat) : ∀ y ∈ natsV l, y.oneCell' = true := by
  intro y hy; obtain ⟨n, _, rfl⟩ := List.mem_map.1 hy; rfl

theorem RingF.low {fs : List Fr} {A : Option Addr} {c b b' : Nat} {F : List (Nat × Obj)} (h : RingF fs A c F b) (hb : b' ≤ b) : RingF fs A c F b' := by
  obtain ⟨hm, h | ⟨g, hg, h⟩⟩ := h
  · exact ⟨hm, .inl h⟩
  · exact ⟨hm, .inr ⟨g, by omega, h⟩⟩

theorem ClockTurns_spec (W : World) (n : Int) (v : Value) (l : List Ask) (hr : RdS W askV 3 v l) (hl : ∀ o ∈ l, in64 o.kind ∧ in64 o.page ∧ in64 o.n) :
    CallsR Try.prog 7 #[.int .i64 n, v] W fun r w' => r = .bool true ∧ Upd W w' [] := by
  apply flotillalaw14_ClockTurns_sound
  unfold flotillalaw14_ClockTurns_x
  have fin : ∀ w', Upd W w' [] → (std Try.prog).calls 10 #[] w' fun r w_1 => r = .bool true ∧ Upd W w_1 [] := fun w' hU => st_call (lives_spec w') fun v w4 h => ⟨h.1, hU.trans h.2⟩
  refine st_call (made_own W n v l hr hl) ?_
  rintro _ w1 ⟨fs, hand, A, c, F, hG, rfl, hF, hOF, hU1⟩
  refine st_alloc ze24 hU1 hOF ?_
  intro g5 w2 hU2 hO2 hg5
  refine st_ring hU2 hO2 0 rfl rfl rfl (.inr hg5) ?_
  intro w3 hU3 hO3 d0 d1
  have hO3 : Owns w3 ([(g5, .cells #[.slice A fs.length c, .int .i64 hand] 24 (0, 0))] ++ F) := hO3
  simp (disch := first | assumption | omega) only [PX, BX, LX, ld24]
  refine ⟨fun h0 => fin _ hU3, fun h0 => ?_⟩
  rcases hG with ⟨hn, rfl, _⟩ | ⟨hn, hmay, hlen⟩
  · exact absurd rfl h0
  refine st_call (loose_spec w3 _ fs hand (hF.at_ hO3 hand)) ?_
  rintro _ w4 ⟨rfl, hU4⟩
  have hO4 := hO3.ext hU4
  have hU4 := hU3.trans hU4
  simp (disch := first | assumption | omega) only [PX, BX]
  refine ⟨fun hz => fin _ hU4, fun hz => ?_⟩
  have hz : looseN fs ≠ 0 := by omega
  have d0 : w4.cell? ⟨g5, 0, none⟩ = some (.slice A fs.length c) := cell_at (hO4.at_ 0 rfl)
  have d1 : w4.cell? ⟨g5, 1, none⟩ = some (.int .i64 hand) := cell_at (hO4.at_ 0 rfl)
  rw [ld24 d0 d1]
  refine st_call (loose_spec w4 _ fs hand (hF.at_ hO4 hand)) ?_
  rintro _ w5 ⟨rfl, hU5⟩
  have hO5 := hO4.ext hU5
  have hUW5 := hU4.trans hU5
  have hn16 : fs.length ≤ 16 := hmay.2.1
  obtain ⟨hnd, rfl⟩ : ∃ m : Nat, hand = m := ⟨hand.toNat, by have := hmay.2.2.1; omega⟩
  have hlz : looseN fs ≤ 16 := by
    have := looseN_le fs fs.length
    rw [List.take_length] at this; omega
  -- the first rounds
  refine st_loop (fun vs w' => ∃ (i : Nat) (gs : List Fr) (h : Nat) (A : Option Addr) (c : Nat) (F : List (Nat × Obj)), i ≤ 2 * fs.length ∧ vs.getD 0 undef = .int .i64 i ∧ May gs h ∧ LeF fs gs ∧ Clean i gs h ∧ RingF gs A c F W.heap.size ∧ Owns w' ([(g5, .cells #[.slice A gs.length c, .int .i64 (h : Nat)] 24 (0, 0))] ++ F) ∧ Upd W w' [])
    (fun vs _ => 2 * fs.length - (intOf (vs.getD 0 undef)).toNat) ⟨0, fs, hnd, A, c, F, by omega, rfl, hmay, LeF.refl _, fun i hi d h1 h2 => by omega, hF, hO5, hUW5⟩ ?_
  clear hU1 hU2 hU3 hU4 hU5 hO2 hO3 hO4 hO5 d0 d1 hUW5 hOF hF hmay
  rintro dv vs w6 - ⟨i, gs, h, A, c, F, hi, e0, hmay, hle, hcl, hF, hO, hU⟩
  have hgl := hle.1
  have d0 : w6.cell? ⟨g5, 0, none⟩ = some (.slice A gs.length c) := cell_at (hO.at_ 0 rfl)
  have d1 : w6.cell? ⟨g5, 1, none⟩ = some (.int .i64 (h : Nat)) := cell_at (hO.at_ 0 rfl)
  simp (disch := first | assumption | omega) only [PX, BX, LX, ld24, e0, w64]
  have hpin : ∃ (i : Nat) (hi : i < gs.length), gs[i].pins = 0 := loose_some hle hz
  refine ⟨fun hlt => ?_, fun hge => ?_⟩
  · refine st_call (Next_spec w6 _ gs h (hF.at_ hO h)) fun r w7 hE => ?_
    obtain ⟨A', c', hd, e, i', fs', F', rfl, hU7, hF', hOF', hres⟩ := nextE_out hE
    have hO7 := owns_join hO hU7 hF' hOF'
    have hF' := hF'.low hU.size
    have hU7 := hU.trans hU7
    rw [px_ext30, px_ext31, px_ext32]
    refine st_alloc ze24 hU7 hO7 ?_
    intro g9 w8 hU8 hO8 hg9
    refine st_ring hU8 hO8 0 rfl rfl rfl (.inr hg9) ?_
    intro w9 hU9 hO9 x0 x1
    simp (disch := first | assumption | omega) only [PX, BX, ld24]
    rcases hres with hx | ⟨rfl, h', rfl, hx⟩
    · obtain ⟨_, hall⟩ := next_none hmay hx
      obtain ⟨q, hq, hqp⟩ := hpin
      exact absurd hqp (hall q hq)
    refine ⟨fun h => absurd rfl h, fun _ => ?_⟩
    obtain ⟨_, hmay', hle', hh', _⟩ := next_some hx
    refine st_ring hU9 hO9 1 rfl rfl rfl (.inr hg5) ?_
    intro w10 hU10 hO10 _ _
    refine ⟨⟨i + 1, fs', h', A', c', F', by omega, rfl, hmay', hle.trans hle', next_clean hcl hx, hF', hO10.sub (.cons _ (.cons_cons _ (List.sublist_append_right F F'))), hU10⟩, ?_⟩
    simp only [List.getD_cons_zero, intOf]; omega
  -- now each is told
  have hh : h < gs.length := by have := hmay.2.2.2.1; omega
  have hall := clean_all hcl hh (by omega)
  rw [← loose_same hle] at hlz hz ⊢
  have hgn : gs.length ≤ 16 := by omega
  unfold flotillalaw14_ClockTurns_k1
  refine st_loop (fun vs w' => ∃ (p : Nat) (ht : List (Nat × Obj)) (A : Option Addr) (c : Nat) (F : List (Nat × Obj)), p ≤ gs.length ∧ (toldL gs h p).length ≤ looseN gs ∧ vs.getD 1 undef = .int .i64 (toldL gs h p).length ∧ RowH 3 1 (vs.getD 0 undef) (toldL gs h p).length (natsV (toldL gs h p)) ht ∧ May gs ((h + p) % gs.length : Nat) ∧ RingF gs A c F W.heap.size ∧ Owns w' (ht ++ ([(g5, .cells #[.slice A gs.length c, .int .i64 ((h + p) % gs.length : Nat)] 24 (0, 0))] ++ F)) ∧ Upd W w' [] ∧ ∀ q ∈ ht, W.heap.size ≤ q.1)
    (fun vs _ => looseN gs - (intOf (vs.getD 1 undef)).toNat) ⟨0, [], A, c, F, by omega, Nat.zero_le _, rfl, RowH.nil_ _ _, by rw [Nat.add_zero, Nat.mod_eq_of_lt hh]; exact hmay, hF, by rw [Nat.add_zero, Nat.mod_eq_of_lt hh]; exact hO, hU, fun q hq => by cases hq⟩ ?_
  clear hF hO hU d0 d1 e0
  rintro dv2 vs2 w7 - ⟨p, ht, A, c, F, hp, htl, e1, hrow, hmay, hF, hO, hU, hht⟩
  have hO1 : Owns w7 ([(g5, .cells #[.slice A gs.length c, .int .i64 ((h + p) % gs.length : Nat)] 24 (0, 0))] ++ F) := hO.sub (List.sublist_append_right _ _)
  have d0 : w7.cell? ⟨g5, 0, none⟩ = some (.slice A gs.length c) := cell_at (hO1.at_ 0 rfl)
  have d1 : w7.cell? ⟨g5, 1, none⟩ = some (.int .i64 ((h + p) % gs.length : Nat)) := cell_at (hO1.at_ 0 rfl)
  simp (disch := first | assumption | omega) only [PX, BX, LX, ld24, e1, w64]
  refine ⟨fun hlt => ?_, fun hge => ?_⟩
  · have hlt : (toldL gs h p).length < looseN gs := by omega
    obtain ⟨d, hd1, hd2, hnext, htold, hnew⟩ := next_told hmay hh hp hall hlt
    refine st_call (Next_spec w7 _ gs _ (hF.at_ hO1 _)) fun r w8 hE => ?_
    rw [hnext] at hE
    obtain ⟨A', c', hd, e, i', fs', F', rfl, hU8, hF', hOF', hres⟩ := nextE_out hE
    obtain ⟨rfl, h', rfl, hx⟩ : e = 0 ∧ ∃ h' : Nat, hd = h' ∧ (Sum.inr ((h + d) % gs.length, gs, (h + (d + 1)) % gs.length) : Nat ⊕ (Nat × List Fr × Nat)) = .inr (i', fs', h') := by
      rcases hres with h | h
      · cases h
      · exact h
    injection hx with hx
    injection hx with ha hx
    injection hx with hb hx
    subst ha hb hx
    have hO8 := owns_join hO hU8 hF' hOF'
    have hF' := hF'.low hU.size
    have hU8 := hU.trans hU8
    rw [px_ext30, px_ext31, px_ext32]
    refine st_alloc ze24 hU8 hO8 ?_
    intro g14 w9 hU9 hO9 hg14
    refine st_ring hU9 hO9 0 rfl rfl rfl (.inr hg14) ?_
    intro w10 hU10 hO10 x0 x1
    simp (disch := first | assumption | omega) only [PX, BX]
    refine ⟨fun h => absurd rfl h, fun _ => ?_⟩
    have hO10 : Owns w10 ((g14, .cells #[.slice A' gs.length c', .int .i64 ((h + (d + 1)) % gs.length : Nat)] 24 (0, 0)) :: (ht ++ ([(g5, .cells #[.slice A gs.length c, .int .i64 ((h + p) % gs.length : Nat)] 24 (0, 0))] ++ F) ++ F')) := hO10
    have hrd := hrow.rd (F := []) (by rw [List.append_nil]; exact hO10.sub (.cons _ (.trans (List.sublist_append_left _ _) (List.sublist_append_left _ _))))
    refine st_loop (fun vs w' => ∃ k : Nat, k ≤ (toldL gs h p).length ∧ vs.getD 0 undef = .int .i64 k ∧ w' = w10) (fun vs _ => (toldL gs h p).length - (intOf (vs.getD 0 undef)).toNat) ⟨0, by omega, rfl, rfl⟩ ?_
    rintro dv3 vs3 w11 - ⟨k, hk, e3, rfl⟩
    have hrd' := hrd
    obtain ⟨B, cb, hv, _, _, hcell⟩ := hrd'
    rw [hv]
    simp (disch := first | assumption | omega) only [PX, BX, e3]
    refine ⟨fun hlt3 => ?_, fun hge3 => ?_⟩
    · have hk' : k < (toldL gs h p).length := by omega
      obtain ⟨a, rfl, hc⟩ := hcell k (.int .i64 (((toldL gs h p)[k] : Nat) : Int)) (by simp [natsV, hk'])
      rw [step_run (run_idxS u46 sz3 (by omega) (by omega)), show ((k : Nat) : Int).toNat * 1 = k by omega]
      simp (disch := first | assumption | omega) only [PX, BX, LX, e3, w64]
      refine ⟨fun he => ?_, fun he => ⟨⟨k + 1, by omega, rfl, trivial⟩, ?_⟩⟩
      · exfalso
        apply hnew
        have he : (toldL gs h p)[k] = (h + d) % gs.length := by omega
        rw [← he]
        exact List.getElem_mem hk'
      · simp only [List.getD_cons_zero, intOf]; omega
    · unfold flotillalaw14_ClockTurns_k3
      rw [hv]
      refine st_newRow (one_row _) hU10 hO10 ?_
      intro g15 w12 hU12 hO12 hg15
      obtain ⟨inf, hi1, hz1, hs, hb⟩ := inf3
      rw [← hv]
      refine st_append (F := (g15, Obj.cells #[.int .i64 ((h + d) % gs.length : Nat)] 3 (0, 0)) :: (g14, .cells #[.slice A' gs.length c', .int .i64 ((h + (d + 1)) % gs.length : Nat)] 24 (0, 0)) :: ([(g5, .cells #[.slice A gs.length c, .int .i64 ((h + p) % gs.length : Nat)] 24 (0, 0))] ++ F ++ F')) u46 hi1 hz1 hs hb rfl (by omega) hrow (hO12.perm ?_) hU12 (fun q hq => .inr (hht q hq)) (rd_row (n := 1) (c := 1) (xs := natsV [(h + d) % gs.length]) (hO12.at_ 0 rfl) rfl (by omega) rfl) (natsV_one _) (by unfold maxLen; omega) (by omega) ?_
      · rw [List.append_assoc]
        refine List.Perm.trans ?_ (List.perm_middle.symm)
        exact List.Perm.cons _ List.perm_middle.symm
      intro v13 w13 h13 hr13 hO13 hU13 hh13
      have hO13' := hO13.sub (h' := (g14, .cells #[.slice A' gs.length c', .int .i64 ((h + (d + 1)) % gs.length : Nat)] 24 (0, 0)) :: ([(g5, .cells #[.slice A gs.length c, .int .i64 ((h + p) % gs.length : Nat)] 24 (0, 0))] ++ F ++ F')) (.trans (.cons _ (List.Sublist.refl _)) (List.sublist_append_right _ _))
      have x0 : w13.cell? ⟨g14, 0, none⟩ = some (.slice A' gs.length c') := cell_at (hO13'.at_ 0 rfl)
      have x1 : w13.cell? ⟨g14, 1, none⟩ = some (.int .i64 ((h + (d + 1)) % gs.length : Nat)) := cell_at (hO13'.at_ 0 rfl)
      rw [ld24 x0 x1]
      have hO14 : Owns w13 ((g5, .cells #[.slice A gs.length c, .int .i64 ((h + p) % gs.length : Nat)] 24 (0, 0)) :: (h13 ++ F')) :=
        (hO13.sub (h' := h13 ++ ((g5, .cells #[.slice A gs.length c, .int .i64 ((h + p) % gs.length : Nat)] 24 (0, 0)) :: F')) (List.Sublist.append (List.Sublist.refl h13) (.cons _ (.cons _ (.cons_cons _ (List.sublist_append_right F F')))))).perm List.perm_middle
      refine st_ring hU13 hO14 0 rfl rfl rfl (.inr hg5) ?_
      intro w14 hU14 hO15 _ _
      have hO15 : Owns w14 ((g5, .cells #[.slice A' gs.length c', .int .i64 ((h + (d + 1)) % gs.length : Nat)] 24 (0, 0)) :: (h13 ++ F')) := hO15
      simp (disch := first | assumption | omega) only [PX, e1, w64]
      have hlen1 : (toldL gs h (d + 1)).length = (toldL gs h p).length + 1 := by rw [htold]; simp
      have hmay' := (next_some hnext).2.1
      refine ⟨⟨d + 1, h13, A', c', F', by omega, by omega, by rw [hlen1]; rfl, ?_, hmay', hF', hO15.perm List.perm_middle.symm, hU14, fun q hq => (hh13 q hq).resolve_left (by simp)⟩, ?_⟩
      · rw [hlen1, htold]
        have : natsV (toldL gs h p) ++ natsV [(h + d) % gs.length] = natsV (toldL gs h p ++ [(h + d) % gs.length]) := by simp [natsV]
        rw [this] at hr13
        exact hr13
      · simp only [List.getD_cons_succ, List.getD_cons_zero, intOf]; omega
  · unfold flotillalaw14_ClockTurns_k2
    obtain ⟨B, cb, hv, _, _, hcell⟩ := hrow.rd hO
    rw [hv]
    simp (disch := first | assumption | omega) only [PX, BX]
    exact ⟨fun _ => fin _ hU, fun h => absurd (by omega) h⟩
end Go.Proofs.Ytnghnolpohahpaa
