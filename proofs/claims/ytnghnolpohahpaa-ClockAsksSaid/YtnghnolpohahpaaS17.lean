/- The document's rings: which may be, where a page is, a ring with one frame changed. -/
import Derived.Test.YtnghnolpohahpaaS16
namespace Go.Proofs.Ytnghnolpohahpaa
open Go Xf Go.RowKit
set_option linter.unusedVariables false
set_option linter.unusedSimpArgs false
set_option maxRecDepth 100000

/-- a ring that reads as it does, whatever is written to ks -/
def RingK (w : World) (ks : List Nat) (v : Value) (fs : List Fr) (hand : Int) : Prop := ∀ w', Upd w w' ks → RingAt w' v fs hand
def FreshV (w : World) (v : Value) : Prop := ∀ (a : Addr) (n c : Nat) (h : Value), v = .agg #[.slice (some a) n c, h] → w.heap.size ≤ a.block
theorem RingAt.upd {w w' : World} {v : Value} {fs : List Fr} {hand : Int} {ks : List Nat} (h : RingAt w v fs hand) (hU : Upd w w' ks) (hf : ∀ (a : Addr) (n c : Nat) (x : Value), v = .agg #[.slice (some a) n c, x] → a.block ∉ ks) : RingAt w' v fs hand := by
  obtain ⟨A, c, rfl, hm, A', c', he, h1, h2, h3⟩ := h
  injection he with e1 e2 e3
  subst e1 e3
  refine ⟨_, _, rfl, hm, _, _, rfl, h1, h2, fun j u hu => ?_⟩
  obtain ⟨a, ha, hc⟩ := h3 j u hu
  subst ha
  refine ⟨a, rfl, ?_⟩
  rw [hU.cell (World.block_lt_of_cell? w _ hc) (by rw [block_add]; exact hf a _ _ _ rfl)]; exact hc
theorem ringK_fresh {w w' : World} {v : Value} {fs : List Fr} {hand : Int} {ks : List Nat} (h : RingAt w' v fs hand) (hf : FreshV w v) (hk : ∀ k ∈ ks, k < w.heap.size) : RingK w' ks v fs hand :=
  fun w'' hU => h.upd hU fun a n c x he hm => by have := hf a n c x he; have := hk _ hm; omega
theorem RingK.mono {w w' : World} {v : Value} {fs : List Fr} {hand : Int} {ks : List Nat} (h : RingK w ks v fs hand) (hU : Upd w w' ks) : RingK w' ks v fs hand := fun w'' hU' => h w'' (hU.trans hU')
theorem RingK.at_ {w : World} {v : Value} {fs : List Fr} {hand : Int} {ks : List Nat} (h : RingK w ks v fs hand) : RingAt w v fs hand := h w (Upd.refl w ks)
theorem RingAt.k {w : World} {v : Value} {fs : List Fr} {hand : Int} (h : RingAt w v fs hand) : RingK w [] v fs hand := fun w' hU => h.mono hU
theorem RingK.low {w w' : World} {v : Value} {fs : List Fr} {hand : Int} {ks ls : List Nat} (h : RingK w ks v fs hand) (hU : Upd w w' []) (hs : ∀ k ∈ ls, k ∈ ks ∨ w.heap.size ≤ k) : RingK w' ls v fs hand :=
  fun w'' hU' => h w'' ((hU.nil ks).then_ hU' hs)

theorem ld31 {g : Nat} {f : Fr} {w : World} {K : Value → World → Prop} (h0 : w.cell? ⟨g, 0, none⟩ = some (.int .i64 f.page)) (h1 : w.cell? ⟨g, 1, none⟩ = some (.bool f.used)) (h2 : w.cell? ⟨g, 2, none⟩ = some (.int .i64 f.pins)) :
    (std Try.prog).step (sLoad 31 (.pointer (some ⟨g, 0, none⟩))) w K = K (.agg (frV f).toArray) w := by
  refine step_run (run_sLoad (run_loadVarN (cs := frV f) ag31 (by rw [sz31]; rfl) fun j v hj => ?_))
  rw [add_mk, Nat.zero_add]
  match j, hj with
  | 0, hj => simp [frV] at hj; subst hj; exact h0
  | 1, hj => simp [frV] at hj; subst hj; exact h1
  | 2, hj => simp [frV] at hj; subst hj; exact h2
theorem ldA31 {a : Addr} {f : Fr} {w : World} {K : Value → World → Prop} (h0 : w.cell? a = some (.int .i64 f.page)) (h1 : w.cell? (a.add 1) = some (.bool f.used)) (h2 : w.cell? (a.add 2) = some (.int .i64 f.pins)) :
    (std Try.prog).step (sLoad 31 (.pointer (some a))) w K = K (.agg (frV f).toArray) w := by
  refine step_run (run_sLoad (run_loadVarN (cs := frV f) ag31 (by rw [sz31]; rfl) fun j v hj => ?_))
  match j, hj with
  | 0, hj => simp [frV] at hj; subst hj; exact h0
  | 1, hj => simp [frV] at hj; subst hj; exact h1
  | 2, hj => simp [frV] at hj; subst hj; exact h2
/-- a frame in a variable of its own -/
theorem st_newframe {W w : World} {f : Fr} {h : List (Nat × Obj)} {ks : List Nat} {K : Value → World → Prop} (hU : Upd W w ks) (hO : Owns w h) (hk : ∀ g w', Upd W w' ks → Owns w' ((g, .cells #[.int .i64 f.page, .bool f.used, .int .i64 f.pins] 31 (0, 0)) :: h) → W.heap.size ≤ g → K (.pointer (some ⟨g, 0, none⟩)) w') :
    (std Try.prog).step (sAlloc 31) w fun p u => (std Try.prog).step (sStore 31 p (.agg (frV f).toArray)) u fun _ u => K p u := by
  refine st_alloc ze31 hU hO ?_
  intro g w1 hU1 hO1 hg
  refine st_storeN (vs := frV f) (by rw [sz31]; rfl) hU1 hO1 0 rfl (by simp [Value.cells, frV]) (frV_one _) (.inr hg) ?_
  intro w2 hU2 hO2
  exact hk g w2 hU2 hO2 hg

theorem refMay_spec (w : World) (v : Value) (fs : List Fr) (hand : Int) (hr : RingAt w v fs hand) :
    CallsR Try.prog 14 #[v] w fun r w' => r = .bool (decide (May fs hand)) ∧ Upd w w' [] := by
  apply flotillaref14_May_sound
  unfold flotillaref14_May_x
  obtain ⟨A, c, rfl, hm, hrd⟩ := hr
  refine st_box (Upd.refl w []) (Owns.nil w) ?_
  intro g w1 hU1 hO1 hg
  have bad : ¬ May fs hand → ∀ w', Upd w w' [] → (Value.bool false = .bool (decide (May fs hand)) ∧ Upd w w' []) := by
    intro h w' hU'
    rw [decide_eq_false h]; exact ⟨rfl, hU'⟩
  have c0 : w1.cell? ⟨g, 0, none⟩ = some (.slice A fs.length c) := cell_at (hO1.at_ 0 rfl)
  have c1 : w1.cell? ⟨g, 1, none⟩ = some (.int .i64 hand) := cell_at (hO1.at_ 0 rfl)
  simp (disch := first | assumption | omega) only [PX, BX, LX, add_mk, Nat.reduceAdd, flotillaref14_May_k1]
  refine ⟨fun h => bad (fun hm => by obtain ⟨h1, h2, h3, h4, _⟩ := hm; omega) _ hU1, fun hn1 => ⟨fun h => bad (fun hm => by obtain ⟨h1, h2, h3, h4, _⟩ := hm; omega) _ hU1, fun hn16 => ⟨fun h => bad (fun hm => by obtain ⟨h1, h2, h3, h4, _⟩ := hm; omega) _ hU1, fun hh0 => ⟨fun h => bad (fun hm => by obtain ⟨h1, h2, h3, h4, _⟩ := hm; omega) _ hU1, fun hhn => ?_⟩⟩⟩⟩
  clear c0 c1
  refine st_loop (fun vs w' => ∃ i : Nat, i ≤ fs.length ∧ vs.getD 0 undef = .int .i64 i ∧ Upd w w' [] ∧ Owns w' [(g, .cells #[.slice A fs.length c, .int .i64 hand] 24 (0, 0))] ∧ ∀ (j : Nat) (hj : j < fs.length), j < i → okF fs[j] ∧ ∀ (k : Nat) (hk : k < j), 0 ≤ fs[j].page → fs[k].page ≠ fs[j].page)
    (fun vs _ => fs.length - (intOf (vs.getD 0 undef)).toNat) ⟨0, by omega, rfl, hU1, hO1, fun j hj h => by omega⟩ ?_
  clear hU1 hO1
  rintro dv vs w5 - ⟨i, hi, e0, hU5, hO5, hall⟩
  have c0 : w5.cell? ⟨g, 0, none⟩ = some (.slice A fs.length c) := cell_at (hO5.at_ 0 rfl)
  simp (disch := first | assumption | omega) only [e0, PX, BX, LX]
  refine ⟨fun hlt => ?_, fun hge => ?_⟩
  · have hlt' : i < fs.length := by omega
    obtain ⟨a, rfl, f0, f1, f2⟩ := fr_at hrd hlt'
    have f0 := f0 w5 hU5
    have f1 := f1 w5 hU5
    have f2 := f2 w5 hU5
    rw [idx22 hlt', ldA31 f0 (by rw [add_add']; exact f1) (by rw [add_add']; exact f2)]
    clear f0 f1 f2
    refine st_newframe hU5 hO5 fun g6 w7 hU7 hO7 hg6 => ?_
    clear hU5 hO5
    have c0 : w7.cell? ⟨g6, 0, none⟩ = some (.int .i64 fs[i].page) := cell_at (hO7.at_ 0 rfl)
    have c1 : w7.cell? ⟨g6, 1, none⟩ = some (.bool fs[i].used) := cell_at (hO7.at_ 0 rfl)
    have c2 : w7.cell? ⟨g6, 2, none⟩ = some (.int .i64 fs[i].pins) := cell_at (hO7.at_ 0 rfl)
    have badF : ¬ okF fs[i] → (Value.bool false = .bool (decide (May fs hand)) ∧ Upd w w7 []) := fun h => bad (fun hm => h (hm.2.2.2.2 i hlt').1) w7 hU7
    simp (disch := first | assumption | omega) only [PX, BX, LX, add_mk, Nat.reduceAdd, flotillaref14_May_k4]
    let hb := [(g6, Obj.cells #[.int .i64 fs[i].page, .bool fs[i].used, .int .i64 fs[i].pins] 31 (0, 0)), (g, Obj.cells #[.slice (some a) fs.length c, .int .i64 hand] 24 (0, 0))]
    have inner : okF fs[i] → flotillaref14_May_k5 (std Try.prog) (.pointer (some ⟨g, 0, none⟩)) vs (fun vs' w' => (∃ i : Nat, i ≤ fs.length ∧ vs'.getD 0 undef = .int .i64 i ∧ Upd w w' [] ∧ Owns w' [(g, .cells #[.slice (some a) fs.length c, .int .i64 hand] 24 (0, 0))] ∧ ∀ (j : Nat) (hj : j < fs.length), j < i → okF fs[j] ∧ ∀ (k : Nat) (hk : k < j), 0 ≤ fs[j].page → fs[k].page ≠ fs[j].page) ∧ fs.length - (intOf (vs'.getD 0 undef)).toNat < fs.length - (intOf (.int .i64 (i : Nat))).toNat) (.pointer (some ⟨g6, 0, none⟩)) w7 fun r w' => r = .bool (decide (May fs hand)) ∧ Upd w w' [] := by
      intro hok
      unfold flotillaref14_May_k5
      refine st_loop (fun vs w' => ∃ k : Nat, k ≤ i ∧ vs.getD 0 undef = .int .i64 k ∧ SU w hb w' ∧ ∀ (j : Nat) (hj : j < k) (hjl : j < fs.length), 0 ≤ fs[i].page → fs[j].page ≠ fs[i].page) (fun vs _ => i - (intOf (vs.getD 0 undef)).toNat) ⟨0, by omega, rfl, ⟨hU7, hO7⟩, fun j hj => by omega⟩ ?_
      rintro dv2 vs2 w8 - ⟨k, hk, e2, hS8, hd⟩
      simp (disch := omega) only [e0, e2, PX, BX]
      refine ⟨fun hkl => ?_, fun hkg => ?_⟩
      · have hkl' : k < i := by omega
        have hS9 : SU w hb w8.drew := SU.drew hS8.1 hS8.2
        have hne : ∃ w', SU w hb w' := ⟨_, hS9⟩
        obtain ⟨a', ha, f0, _, _⟩ := fr_at hrd (show k < fs.length by omega)
        injection ha with ha; subst ha
        have p0 : ∀ w', SU w hb w' → w'.cell? (a.add (k * 3)) = some (.int .i64 fs[k].page) := fun w' h => f0 w' h.1
        have q0 : ∀ w', SU w hb w' → w'.cell? ⟨g, 0, none⟩ = some (.slice (some a) fs.length c) := fun w' h => cell_at (h.2.at_ 1 rfl)
        have q1 : ∀ w', SU w hb w' → w'.cell? ⟨g6, 0, none⟩ = some (.int .i64 fs[i].page) := fun w' h => cell_at (h.2.at_ 0 rfl)
        refine st_draw (SU w hb) hS9 ?_
        simp (disch := first | assumption | omega) only [SX, SLX, BX, PX, sidx22, flotillaref14_May_k6, e2, w64]
        have hdec : i - (intOf ([Value.int .i64 ((k : Int) + 1)].getD 0 undef)).toNat < i - (intOf (.int .i64 (k : Nat))).toNat := by
          simp only [List.getD_cons_zero, intOf]; omega
        refine ⟨fun hp => ⟨fun he => bad (fun hm => (hm.2.2.2.2 i hlt').2 k hkl' hp he) _ hS9.1, fun he => ⟨⟨k + 1, by omega, rfl, hS9, fun j hj hjl hp => ?_⟩, hdec⟩⟩, fun hp => ⟨⟨k + 1, by omega, rfl, hS9, fun j hj hjl hp' => absurd hp' hp⟩, hdec⟩⟩
        by_cases hjk : j < k
        · exact hd j hjk hjl hp
        · obtain rfl : j = k := by omega
          exact he
      · obtain rfl : k = i := by omega
        unfold flotillaref14_May_k3
        simp (disch := omega) only [e0, PX, w64]
        refine ⟨⟨k + 1, by omega, rfl, hS8.1, hS8.2.sub (.cons _ (List.Sublist.refl _)), fun j hj hji => ?_⟩, by simp only [List.getD_cons_zero, intOf]; omega⟩
        by_cases h : j < k
        · exact hall j hj h
        · obtain rfl : j = k := by omega
          exact ⟨hok, fun q hq hp => hd q hq (by omega) hp⟩
    rw [bool_var]
    refine ⟨fun h => badF fun ho => by obtain ⟨o1, o2, o3, o4, o5⟩ := ho; omega, fun h1 => ⟨fun h => badF fun ho => by obtain ⟨o1, o2, o3, o4, o5⟩ := ho; omega, fun h2 => ⟨fun h => badF fun ho => by obtain ⟨o1, o2, o3, o4, o5⟩ := ho; omega, fun h3 => ⟨fun h => badF fun ho => by obtain ⟨o1, o2, o3, o4, o5⟩ := ho; omega, fun h4 => ⟨fun h5 => ⟨fun hu => badF fun ho => ?_, fun hu => ⟨fun h => badF fun ho => ?_, fun h6 => ?_⟩⟩, fun h5 => ?_⟩⟩⟩⟩⟩
    · obtain ⟨o1, o2, o3, o4, o5⟩ := ho
      rw [(o5 h5).1] at hu; cases hu
    · obtain ⟨o1, o2, o3, o4, o5⟩ := ho
      exact h (o5 h5).2
    · exact inner ⟨by omega, by omega, by omega, by omega, fun _ => ⟨hu, by omega⟩⟩
    · exact inner ⟨by omega, by omega, by omega, by omega, fun h => absurd h h5⟩
  · obtain rfl : i = fs.length := by omega
    unfold flotillaref14_May_k2
    rw [decide_eq_true (show May fs hand from ⟨by omega, by omega, by omega, by omega, fun j hj => hall j hj hj⟩)]
    exact ⟨rfl, hU5⟩

theorem refAt_spec (w : World) (v : Value) (fs : List Fr) (hand page : Int) (hr : RingAt w v fs hand) :
    CallsR Try.prog 28 #[v, .int .i64 page] w fun r w' => r = .int .i64 (atR fs hand page) ∧ Upd w w' [] := by
  apply flotillaref14_At_sound
  unfold flotillaref14_At_x
  have hr' := hr
  obtain ⟨A, c, rfl, hm, hrd⟩ := hr'
  refine st_box (Upd.refl w []) (Owns.nil w) ?_
  intro g w1 hU1 hO1 hg
  have c0 : w1.cell? ⟨g, 0, none⟩ = some (.slice A fs.length c) := cell_at (hO1.at_ 0 rfl)
  have c1 : w1.cell? ⟨g, 1, none⟩ = some (.int .i64 hand) := cell_at (hO1.at_ 0 rfl)
  simp (disch := first | assumption | omega) only [PX, BX, LX, add_mk, Nat.reduceAdd, ld24]
  clear c0 c1
  refine ⟨fun hp => ⟨by unfold atR; rw [if_pos (.inl hp)], hU1⟩, fun hp => ?_⟩
  refine st_call (refMay_spec w1 _ fs hand (hr.mono hU1)) ?_
  rintro _ w2 ⟨rfl, hU2⟩
  have hO2 := hO1.ext hU2
  have hU := hU1.trans hU2
  simp (disch := first | assumption | omega) only [PX, BX]
  refine ⟨fun hmay => ?_, fun hmay => ⟨by unfold atR; rw [if_pos (.inr hmay)], hU⟩⟩
  have c0 : w2.cell? ⟨g, 0, none⟩ = some (.slice A fs.length c) := cell_at (hO2.at_ 0 rfl)
  have hn : fs.length ≤ 16 := hmay.2.1
  have hsel : atR fs hand page = atI fs page := by unfold atR; rw [if_neg (by rintro (h | h); exact hp h; exact h hmay)]
  refine st_loop (fun vs w' => ∃ i : Nat, i ≤ fs.length ∧ vs.getD 1 undef = .int .i64 i ∧ w' = w2 ∧ ∀ (j : Nat) (hj : j < fs.length), j < i → fs[j].page ≠ page) (fun vs _ => fs.length - (intOf (vs.getD 1 undef)).toNat) ⟨0, by omega, rfl, rfl, fun j _ hj => by omega⟩ ?_
  rintro dv vs w3 - ⟨i, hi, e3, rfl, hall⟩
  simp (disch := first | assumption | omega) only [e3, PX, BX, LX]
  refine ⟨fun hlt => ?_, fun hge => ?_⟩
  · have hlt' : i < fs.length := by omega
    obtain ⟨a, rfl, f0, _, _⟩ := fr_at hrd hlt'
    have f0 := f0 w3 hU
    simp (disch := first | assumption | omega) only [PX, BX, LX, idx22, w64]
    refine ⟨fun he => ⟨?_, hU⟩, fun he => ⟨⟨i + 1, by omega, rfl, trivial, fun j hj hji => ?_⟩, ?_⟩⟩
    · rw [hsel, atI_at hlt' (fun j hj => hall j (by omega) hj) he]
    · by_cases h : j < i
      · exact hall j hj h
      · obtain rfl : j = i := by omega
        exact he
    · simp only [List.getD_cons_succ, List.getD_cons_zero, intOf]; omega
  · obtain rfl : i = fs.length := by omega
    unfold flotillaref14_At_k1
    refine ⟨?_, hU⟩
    rw [hsel, atI_no fun j hj => hall j hj hj]

end Go.Proofs.Ytnghnolpohahpaa
