/- Places of pages; what is found. -/
import Derived.Test.YtnghnolpohahpaaS2
namespace Go.Proofs.Ytnghnolpohahpaa
open Go Xf Go.RowKit
set_option linter.unusedVariables false
set_option linter.unusedSimpArgs false
set_option maxRecDepth 100000

theorem ld24 {g : Nat} {a b : Value} {w : World} {K : Value → World → Prop} (h0 : w.cell? ⟨g, 0, none⟩ = some a) (h1 : w.cell? ⟨g, 1, none⟩ = some b) :
    (std Try.prog).step (sLoad 24 (.pointer (some ⟨g, 0, none⟩))) w K = K (.agg #[a, b]) w := by
  refine step_run (run_sLoad (run_loadVarN (cs := [a, b]) ag24 (by rw [sz24]; rfl) fun j v hj => ?_))
  rw [add_mk, Nat.zero_add]
  match j, hj with
  | 0, hj => simp at hj; subst hj; exact h0
  | 1, hj => simp at hj; subst hj; exact h1
theorem ldr24 {g : Nat} {a b : Value} {w : World} {k : Value → Prop} (h0 : w.cell? ⟨g, 0, none⟩ = some a) (h1 : w.cell? ⟨g, 1, none⟩ = some b) (hk : k (.agg #[a, b])) :
    (std Try.prog).loadR 24 (.pointer (some ⟨g, 0, none⟩)) w k := by
  refine st_loadR (u := .agg #[a, b]) (run_loadVarN (cs := [a, b]) ag24 (by rw [sz24]; rfl) fun j v hj => ?_) hk
  rw [add_mk, Nat.zero_add]
  match j, hj with
  | 0, hj => simp at hj; subst hj; exact h0
  | 1, hj => simp at hj; subst hj; exact h1

def atI (fs : List Fr) (page : Int) : Int := match fs.findIdx? fun f => f.page == page with | some i => i | none => -1
theorem atI_at {fs : List Fr} {page : Int} {i : Nat} (hi : i < fs.length) (hb : ∀ (j : Nat) (hj : j < i), fs[j].page ≠ page) (h : fs[i].page = page) : atI fs page = i := by
  have : fs.findIdx? (fun f => f.page == page) = some i := by
    rw [List.findIdx?_eq_some_iff_getElem]
    exact ⟨hi, by simp [h], fun j hj => by simpa using hb j hj⟩
  unfold atI; rw [this]
theorem atI_no {fs : List Fr} {page : Int} (hb : ∀ (j : Nat) (hj : j < fs.length), fs[j].page ≠ page) : atI fs page = -1 := by
  have : fs.findIdx? (fun f => f.page == page) = none := by
    rw [List.findIdx?_eq_none_iff]
    intro f hf
    obtain ⟨j, hj, rfl⟩ := List.getElem_of_mem hf
    simpa using hb j hj
  unfold atI; rw [this]
theorem atI_cases (fs : List Fr) (page : Int) : atI fs page = -1 ∧ (∀ (j : Nat) (hj : j < fs.length), fs[j].page ≠ page) ∨ ∃ (i : Nat) (hi : i < fs.length), atI fs page = i ∧ fs[i].page = page ∧ ∀ (j : Nat) (hj : j < i), fs[j].page ≠ page := by
  unfold atI
  cases h : fs.findIdx? fun f => f.page == page with
  | none =>
    refine .inl ⟨rfl, fun j hj he => ?_⟩
    rw [List.findIdx?_eq_none_iff] at h
    have := h fs[j] (List.getElem_mem hj)
    simp [he] at this
  | some i =>
    rw [List.findIdx?_eq_some_iff_getElem] at h
    obtain ⟨hi, h1, h2⟩ := h
    exact .inr ⟨i, hi, rfl, by simpa using h1, fun j hj => by simpa using h2 j hj⟩
noncomputable def atR (fs : List Fr) (hand page : Int) : Int := if page < 0 ∨ ¬ May fs hand then -1 else atI fs page

theorem At_spec (w : World) (v : Value) (fs : List Fr) (hand page : Int) (hr : RingAt w v fs hand) :
    CallsR Try.prog 19 #[v, .int .i64 page] w fun r w' => r = .int .i64 (atR fs hand page) ∧ Upd w w' [] := by
  apply clock_At_sound
  unfold clock_At_x
  have hr' := hr
  obtain ⟨A, c, rfl, hm, hrd⟩ := hr'
  refine st_box (Upd.refl w []) (Owns.nil w) ?_
  intro g w1 hU1 hO1 hg
  have c0 : w1.cell? ⟨g, 0, none⟩ = some (.slice A fs.length c) := cell_at (hO1.at_ 0 rfl)
  have c1 : w1.cell? ⟨g, 1, none⟩ = some (.int .i64 hand) := cell_at (hO1.at_ 0 rfl)
  simp (disch := first | assumption | omega) only [PX, BX, LX, add_mk, Nat.reduceAdd, ld24]
  clear c0 c1
  refine ⟨fun hp => ⟨by unfold atR; rw [if_pos (.inl hp)], hU1⟩, fun hp => ?_⟩
  refine st_call (Check_spec w1 _ fs hand (hr.mono hU1)) ?_
  rintro _ w2 ⟨rfl, hU2⟩
  have hO2 := hO1.ext hU2
  have hU := hU1.trans hU2
  by_cases hmay : May fs hand
  · rw [if_pos hmay]
    have c0 : w2.cell? ⟨g, 0, none⟩ = some (.slice A fs.length c) := cell_at (hO2.at_ 0 rfl)
    simp (disch := first | assumption | omega) only [PX, BX, LX, add_mk, Nat.reduceAdd, ld24]
    refine ⟨fun h => absurd rfl h, fun _ => ?_⟩
    refine st_loop (fun vs w' => ∃ i : Nat, i ≤ fs.length ∧ vs.getD 3 undef = .int .i64 i ∧ Upd w w' [] ∧ ∀ (j : Nat) (hj : j < fs.length), j < i → fs[j].page ≠ page) (fun vs _ => fs.length - (intOf (vs.getD 3 undef)).toNat) ⟨0, by omega, rfl, hU, fun j _ hj => by omega⟩ ?_
    rintro dv vs w3 - ⟨i, hi, e3, hU3, hall⟩
    simp (disch := omega) only [e3, PX, BX]
    have hn : fs.length ≤ 16 := hmay.2.1
    refine ⟨fun hlt => ?_, fun hge => ?_⟩
    · have hlt' : i < fs.length := by omega
      obtain ⟨a, rfl, f0, f1, f2⟩ := frame_run hrd hU3 hlt'
      rw [step_run (run_idxS u22 sz31 (by omega) hlt)]
      refine ld_frame f0 f1 f2 ?_
      clear f0 f1 f2
      refine st_alloc ze31 hU3 (Owns.nil w3) ?_
      intro g6 w6 hU6 hO6 hg6
      refine st_storeN (vs := frV fs[i]) (by rw [sz31]; rfl) hU6 hO6 0 rfl (by simp [Value.cells, frV]) (frV_one _) (.inr hg6) ?_
      intro w7 hU7 hO7
      have c0 : w7.cell? ⟨g6, 0, none⟩ = some (.int .i64 fs[i].page) := cell_at (hO7.at_ 0 rfl)
      simp (disch := first | assumption | omega) only [PX, BX, LX, add_mk, Nat.reduceAdd, w64]
      refine ⟨fun he => ⟨?_, hU7⟩, fun he => ⟨⟨i + 1, by omega, rfl, hU7, fun j hj hji => ?_⟩, ?_⟩⟩
      · unfold atR
        rw [if_neg (by rintro (h | h); exact hp h; exact h hmay), atI_at hlt' (fun j hj => hall j (by omega) hj) he]
      · by_cases h : j < i
        · exact hall j hj h
        · obtain rfl : j = i := by omega
          exact he
      · simp only [List.getD_cons_succ, List.getD_cons_zero, intOf]; omega
    · obtain rfl : i = fs.length := by omega
      unfold clock_At_k1
      refine ⟨?_, hU3⟩
      unfold atR
      rw [if_neg (by rintro (h | h); exact hp h; exact h hmay), atI_no fun j hj => hall j hj hj]
  · rw [if_neg hmay]
    simp (disch := first | assumption | omega) only [PX, BX]
    refine ⟨fun _ => ⟨by unfold atR; rw [if_pos (.inr hmay)], hU⟩, fun h => absurd (by decide) h⟩

end Go.Proofs.Ytnghnolpohahpaa
