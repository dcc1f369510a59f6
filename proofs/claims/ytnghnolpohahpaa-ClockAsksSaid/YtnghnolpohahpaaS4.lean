/- What is found; new rings. -/
import Derived.Test.YtnghnolpohahpaaS3
namespace Go.Proofs.Ytnghnolpohahpaa
open Go Xf Go.RowKit
set_option linter.unusedVariables false
set_option linter.unusedSimpArgs false
set_option maxRecDepth 100000

def ringZ : Value := .agg #[.slice none 0 0, .int .i64 0]
theorem build0 (w : World) : (sBuild 24 []).run Try.prog w = .ok (.value ringZ) w := by kernel_rfl
/-- a store of a whole ring into a variable of its own, and its answer -/
theorem st_ring {w W : World} {h : List (Nat × Obj)} {ks : List Nat} {K : Value → World → Prop} (hU : Upd W w ks) (hO : Owns w h) (i : Nat) {g : Nat} {s t a b : Value} (hi : h[i]? = some (g, .cells #[s, t] 24 (0, 0))) (ha : a.oneCell' = true) (hb : b.oneCell' = true) (hg : g ∈ ks ∨ W.heap.size ≤ g)
    (hk : ∀ w', Upd W w' ks → Owns w' (h.set i (g, .cells #[a, b] 24 (0, 0))) → w'.cell? ⟨g, 0, none⟩ = some a → w'.cell? ⟨g, 1, none⟩ = some b → K undef w') : (std Try.prog).step (sStore 24 (.pointer (some ⟨g, 0, none⟩)) (.agg #[a, b])) w K := by
  refine st_storeN (vs := [a, b]) (by rw [sz24]; rfl) hU hO i hi (by simp) (by intro u hu; simp at hu; rcases hu with rfl | rfl <;> assumption) hg ?_
  intro w' hU' hO'
  have hlt := (List.getElem?_eq_some_iff.1 hi).1
  have hO' : Owns w' (h.set i (g, .cells #[a, b] 24 (0, 0))) := hO'
  have hs : (h.set i (g, Obj.cells #[a, b] 24 (0, 0)))[i]? = some (g, .cells #[a, b] 24 (0, 0)) := List.getElem?_set_self hlt
  exact hk w' hU' hO' (cell_at (hO'.at_ i hs)) (cell_at (hO'.at_ i hs))

theorem found_spec (w : World) (v : Value) (fs : List Fr) (hand page : Int) (hr : RingAt w v fs hand) :
    CallsR Try.prog 30 #[v, .int .i64 page] w fun r w' => Upd w w' [] ∧ ((¬ May fs hand ∧ r = .tuple #[ringZ, .pointer none, .int .i64 1]) ∨ (May fs hand ∧ atR fs hand page = -1 ∧ r = .tuple #[ringZ, .pointer none, .int .i64 8]) ∨
      (May fs hand ∧ ∃ (i g : Nat) (hi : i < fs.length) (x : Value), 0 ≤ page ∧ atR fs hand page = i ∧ fs[i].page = page ∧ NewRing w w' x g fs hand ∧ r = .tuple #[x, .pointer (some ⟨g, i * 3, none⟩), .int .i64 0])) := by
  apply clock_found_sound
  unfold clock_found_x
  have hr' := hr
  obtain ⟨A, c, rfl, hm, hrd⟩ := hr'
  refine st_box (Upd.refl w []) (Owns.nil w) ?_
  intro g w1 hU1 hO1 hg
  refine st_alloc ze24 hU1 hO1 ?_
  intro g2 w2 hU2 hO2 hg2
  have c0 : w2.cell? ⟨g, 0, none⟩ = some (.slice A fs.length c) := cell_at (hO2.at_ 1 rfl)
  have c1 : w2.cell? ⟨g, 1, none⟩ = some (.int .i64 hand) := cell_at (hO2.at_ 1 rfl)
  simp (disch := first | assumption | omega) only [PX, BX, LX, add_mk, Nat.reduceAdd, ld24]
  refine st_call (Check_spec w2 _ fs hand (hr.mono hU2)) ?_
  clear hU1 hO1 c0 c1
  rintro _ w3 ⟨rfl, hU3⟩
  have hO3 := hO2.ext hU3
  have hU3 := hU2.trans hU3
  by_cases hmay : May fs hand
  · rw [if_pos hmay]
    have c0 : w3.cell? ⟨g, 0, none⟩ = some (.slice A fs.length c) := cell_at (hO3.at_ 1 rfl)
    have c1 : w3.cell? ⟨g, 1, none⟩ = some (.int .i64 hand) := cell_at (hO3.at_ 1 rfl)
    simp (disch := first | assumption | omega) only [PX, BX, LX, add_mk, Nat.reduceAdd, ld24]
    refine ⟨fun h => absurd rfl h, fun _ => ?_⟩
    refine st_call (At_spec w3 _ fs hand page (hr.mono hU3)) ?_
    clear c0 c1
    rintro _ w4 ⟨rfl, hU4⟩
    have hO4 := hO3.ext hU4
    have hU4 := hU3.trans hU4
    rw [px_lss, bool_dec]
    refine ⟨fun hlt => ?_, fun hge => ?_⟩
    · rw [step_run (build0 _)]
      refine st_ring hU4 hO4 0 rfl rfl rfl (.inr hg2) ?_
      intro w5 hU5 hO5 d0 d1
      refine ldr24 d0 d1 ⟨hU5, .inr (.inl ⟨hmay, ?_, rfl⟩)⟩
      unfold atR at hlt ⊢
      split
      · rfl
      · rename_i h
        rw [if_neg h] at hlt
        rcases atI_cases fs page with h1 | ⟨i, hi, h1, _⟩
        · exact h1.1
        · omega
    · obtain ⟨i, hi, hai, hpg, hp0⟩ : ∃ (i : Nat) (hi : i < fs.length), atR fs hand page = i ∧ fs[i].page = page ∧ 0 ≤ page := by
        unfold atR at hge ⊢
        by_cases h : page < 0 ∨ ¬ May fs hand
        · rw [if_pos h] at hge; omega
        · rw [if_neg h] at hge ⊢
          rcases atI_cases fs page with h1 | ⟨i, hi, h1, h2, _⟩
          · rw [h1.1] at hge; omega
          · exact ⟨i, hi, h1, h2, by omega⟩
      have c0 : w4.cell? ⟨g, 0, none⟩ = some (.slice A fs.length c) := cell_at (hO4.at_ 1 rfl)
      have c1 : w4.cell? ⟨g, 1, none⟩ = some (.int .i64 hand) := cell_at (hO4.at_ 1 rfl)
      simp (disch := first | assumption | omega) only [PX, BX, LX, add_mk, Nat.reduceAdd, ld24]
      clear c0 c1
      refine st_call (twin_spec w4 _ fs hand (by have := hmay.2.1; omega) (hr.mono hU4)) ?_
      rintro x w5 ⟨g3, hN⟩
      obtain ⟨rfl, _, hO5, hU5, hg3⟩ := hN
      have hO45 := hO4.ext hU5
      have hUw5 := hU4.trans hU5
      have hg3' : w.heap.size ≤ g3 := Nat.le_trans hU4.size hg3
      have hO5' : Owns w5 [(g3, .cells (framesV fs).toArray 31 (0, 0)), (g2, .cells #[.slice none 0 0, .int .i64 0] 24 (0, 0))] := by
        refine ⟨?_, fun p hp => ?_⟩
        · have := hO4.lt (p := (g2, .cells #[.slice none 0 0, .int .i64 0] 24 (0, 0))) (List.mem_cons_self ..)
          simp at this ⊢; omega
        · simp at hp
          rcases hp with rfl | rfl
          · exact hO5.at_ 0 rfl
          · exact hO45.at_ 0 rfl
      refine st_alloc ze24 hUw5 hO5' ?_
      intro g8 w6 hU6 hO6 hg8
      refine st_ring hU6 hO6 0 rfl rfl rfl (.inr hg8) ?_
      intro w7 hU7 hO7 d0 d1
      let S : World → Prop := fun w' => Upd w w' [] ∧ Owns w' [(g8, .cells #[.slice (some ⟨g3, 0, none⟩) fs.length fs.length, .int .i64 hand] 24 (0, 0))]
      have hS7 : S w7.drew := ⟨hU7.trans (Upd.drew w7 []), (hO7.ext (Upd.drew w7 [])).sub (by simp)⟩
      have hne : ∃ w', S w' := ⟨_, hS7⟩
      refine st_draw S hS7 ?_
      have l24 : ∀ w', S w' → (sLoad 24 (.pointer (some ⟨g8, 0, none⟩))).run Try.prog w' = .ok (.value (.agg #[.slice (some ⟨g3, 0, none⟩) fs.length fs.length, .int .i64 hand])) w' := fun w' hw =>
        run_sLoad (run_loadVarN (cs := [.slice (some ⟨g3, 0, none⟩) fs.length fs.length, .int .i64 hand]) ag24 (by rw [sz24]; rfl) (cells_read (hw.2.at_ 0 rfl)))
      have l22 : ∀ w', S w' → (sLoad 22 (.pointer (some ⟨g8, 0, none⟩))).run Try.prog w' = .ok (.value (.slice (some ⟨g3, 0, none⟩) fs.length fs.length)) w' := fun w' hw =>
        run_sLoad (run_loadVar1 ag22 (cell_at (hw.2.at_ 0 rfl)))
      rw [stepS_run hne l24, sx_fa24_0 hne, stepS_run hne l22, hai, stepS_run hne fun w' hw => run_idxS u22 sz31 (by omega) (by omega), add_mk]
      have hO7d := hO7.ext (Upd.drew w7 [])
      refine st_ring (i := 2) (hU7.trans (Upd.drew w7 [])) hO7d rfl rfl rfl (.inr hg2) ?_
      intro w8 hU8 hO8 d0 d1
      refine st_same ⟨hU8, hO8.sub (by simp)⟩ ?_
      refine ldr24 d0 d1 ⟨hU8, .inr (.inr ⟨hmay, i, g3, hi, _, hp0, rfl, hpg, ⟨rfl, hm, hO8.sub (by simp), hU8, hg3'⟩, ?_⟩)⟩
      rw [show 0 + ((i : Nat) : Int).toNat * 3 = i * 3 by omega]
  · rw [if_neg hmay]
    simp (disch := first | assumption | omega) only [PX, BX]
    refine ⟨fun _ => ?_, fun h => absurd (by decide) h⟩
    rw [step_run (build0 _)]
    refine st_ring hU3 hO3 0 rfl rfl rfl (.inr hg2) ?_
    intro w5 hU5 hO5 d0 d1
    exact ldr24 d0 d1 ⟨hU5, .inl ⟨hmay, rfl⟩⟩

end Go.Proofs.Ytnghnolpohahpaa
