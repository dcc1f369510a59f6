/- Put. -/
import Derived.Test.YtnghnolpohahpaaS6
namespace Go.Proofs.Ytnghnolpohahpaa
open Go Xf Go.RowKit
set_option linter.unusedVariables false
set_option linter.unusedSimpArgs false
set_option maxRecDepth 100000

noncomputable def putR (fs : List Fr) (hand page : Int) : Nat ⊕ (List Fr × Int) :=
  if ¬ May fs hand ∨ page < 0 ∨ 16 ≤ page then .inl 1 else if 0 ≤ atR fs hand page then .inl 9 else if atI fs (-1) < 0 then .inl 15 else .inr (fs.set (atI fs (-1)).toNat ⟨page, true, 0⟩, hand)

/-- an error is answered -/
theorem put_err {W w : World} {g2 e : Nat} {a b : Value} {R : Nat ⊕ (List Fr × Int)} (hU : Upd W w []) {h : List (Nat × Obj)} (i : Nat) (hO : Owns w h) (hi : h[i]? = some (g2, .cells #[a, b] 24 (0, 0))) (hg2 : W.heap.size ≤ g2) (hR : R = .inl e) :
    (std Try.prog).step (sBuild 24 []) w fun v => fun u => (std Try.prog).step (sStore 24 (.pointer (some ⟨g2, 0, none⟩)) v) u fun _ u => (std Try.prog).loadR 24 (.pointer (some ⟨g2, 0, none⟩)) u fun r => RingE W u (.tuple #[r, .int .i64 (e : Nat)]) R := by
  rw [step_run (build0 _)]
  refine st_ring hU hO i hi rfl rfl (.inr hg2) ?_
  intro w6 hU6 hO6 d0 d1
  refine ldr24 d0 d1 ?_
  rw [hR]
  exact ⟨rfl, hU6⟩

theorem Put_spec (w : World) (v : Value) (fs : List Fr) (hand page : Int) (hr : RingAt w v fs hand) :
    CallsR Try.prog 21 #[v, .int .i64 page] w fun r w' => RingE w w' r (putR fs hand page) := by
  apply clock_Put_sound
  unfold clock_Put_x
  have hr' := hr
  obtain ⟨A, c, rfl, hm, hrd⟩ := hr'
  refine st_box (Upd.refl w []) (Owns.nil w) ?_
  intro g w1 hU1 hO1 hg
  refine st_alloc ze24 hU1 hO1 ?_
  intro g2 w2 hU2 hO2 hg2
  have c0 : w2.cell? ⟨g, 0, none⟩ = some (.slice A fs.length c) := cell_at (hO2.at_ 1 rfl)
  have c1 : w2.cell? ⟨g, 1, none⟩ = some (.int .i64 hand) := cell_at (hO2.at_ 1 rfl)
  simp (disch := first | assumption | omega) only [PX, BX, LX, add_mk, Nat.reduceAdd, ld24]
  refine st_call (Check_spec w2 _ fs hand (hr.mono hU2)) ?_
  clear hU1 hO1 c0 c1
  rintro _ w3 ⟨rfl, hU3⟩
  have hO3 := hO2.ext hU3
  have hU3 := hU2.trans hU3
  have hO3 : Owns w3 [(g2, .cells #[.slice none 0 0, .int .i64 0] 24 (0, 0)), (g, .cells #[.slice A fs.length c, .int .i64 hand] 24 (0, 0))] := hO3
  by_cases hmay : May fs hand
  · rw [if_pos hmay]
    have c0 : w3.cell? ⟨g, 0, none⟩ = some (.slice A fs.length c) := cell_at (hO3.at_ 1 rfl)
    have c1 : w3.cell? ⟨g, 1, none⟩ = some (.int .i64 hand) := cell_at (hO3.at_ 1 rfl)
    simp (disch := first | assumption | omega) only [PX, BX, LX, add_mk, Nat.reduceAdd, ld24, clock_Put_k1]
    have bad1 : page < 0 ∨ 16 ≤ page → putR fs hand page = .inl 1 := fun h => by unfold putR; rw [if_pos (.inr h)]
    refine ⟨fun h => absurd rfl h, fun _ => ⟨fun h => put_err hU3 0 hO3 rfl hg2 (bad1 (.inl h)), fun hp0 => ⟨fun h => put_err hU3 0 hO3 rfl hg2 (bad1 (.inr h)), fun hp1 => ?_⟩⟩⟩
    refine st_call (At_spec w3 _ fs hand page (hr.mono hU3)) ?_
    clear c0 c1
    rintro _ w4 ⟨rfl, hU4⟩
    have hO4 := hO3.ext hU4
    have hU4 := hU3.trans hU4
    have c0 : w4.cell? ⟨g, 0, none⟩ = some (.slice A fs.length c) := cell_at (hO4.at_ 1 rfl)
    simp (disch := first | assumption | omega) only [PX, BX, LX, add_mk, Nat.reduceAdd]
    have hputR : putR fs hand page = if 0 ≤ atR fs hand page then .inl 9 else if atI fs (-1) < 0 then .inl 15 else .inr (fs.set (atI fs (-1)).toNat ⟨page, true, 0⟩, hand) := by
      unfold putR; rw [if_neg (by rintro (h | h | h); exact h hmay; omega; omega)]
    refine ⟨fun h => put_err hU4 0 hO4 rfl hg2 (by rw [hputR, if_pos h]), fun hno => ?_⟩
    rw [if_neg hno] at hputR
    clear c0
    refine st_loop (fun vs w' => ∃ i : Nat, i ≤ fs.length ∧ vs.getD 4 undef = .int .i64 i ∧ Upd w w' [] ∧ Owns w' [(g2, .cells #[.slice none 0 0, .int .i64 0] 24 (0, 0)), (g, .cells #[.slice A fs.length c, .int .i64 hand] 24 (0, 0))] ∧ ∀ (j : Nat) (hj : j < fs.length), j < i → fs[j].page ≠ -1) (fun vs _ => fs.length - (intOf (vs.getD 4 undef)).toNat) ⟨0, by omega, rfl, hU4, hO4, fun j _ hj => by omega⟩ ?_
    clear hU4 hO4 hU3 hO3
    rintro dv vs w3 - ⟨i, hi, e3, hU3, hO3, hall⟩
    simp (disch := omega) only [e3, PX, BX]
    have hn : fs.length ≤ 16 := hmay.2.1
    refine ⟨fun hlt => ?_, fun hge => ?_⟩
    · have hlt' : i < fs.length := by omega
      obtain ⟨a, rfl, f0, f1, f2⟩ := frame_run hrd hU3 hlt'
      rw [step_run (run_idxS u22 sz31 (by omega) hlt)]
      refine ld_frame f0 f1 f2 ?_
      clear f0 f1 f2
      refine st_alloc ze31 hU3 hO3 ?_
      intro g6 w6 hU6 hO6 hg6
      refine st_storeN (vs := frV fs[i]) (by rw [sz31]; rfl) hU6 hO6 0 rfl (by simp [Value.cells, frV]) (frV_one _) (.inr hg6) ?_
      intro w7 hU7 hO7
      have hO7 : Owns w7 [(g6, .cells #[.int .i64 fs[i].page, .bool fs[i].used, .int .i64 fs[i].pins] 31 (0, 0)), (g2, .cells #[.slice none 0 0, .int .i64 0] 24 (0, 0)), (g, .cells #[.slice (some a) fs.length c, .int .i64 hand] 24 (0, 0))] := hO7
      have c0 : w7.cell? ⟨g6, 0, none⟩ = some (.int .i64 fs[i].page) := cell_at (hO7.at_ 0 rfl)
      have d0 : w7.cell? ⟨g, 0, none⟩ = some (.slice (some a) fs.length c) := cell_at (hO7.at_ 2 rfl)
      have d1 : w7.cell? ⟨g, 1, none⟩ = some (.int .i64 hand) := cell_at (hO7.at_ 2 rfl)
      simp (disch := first | assumption | omega) only [PX, BX, LX, add_mk, Nat.reduceAdd, w64, ld24]
      refine ⟨fun he => ?_, fun he => ⟨⟨i + 1, by omega, rfl, hU7, hO7.sub (by simp), fun j hj hji => ?_⟩, ?_⟩⟩
      · have hat := atI_at hlt' (fun j hj => hall j (by omega) hj) he
        rw [hat, if_neg (by omega), show ((i : Nat) : Int).toNat = i by omega] at hputR
        refine st_call (twin_spec w7 _ fs hand (by omega) (hr.mono hU7)) ?_
        rintro x w8 ⟨g3, hN⟩
        obtain ⟨rfl, _, hO8, hU8, hg3⟩ := hN
        have hUw8 := hU7.trans hU8
        have hg3' : w.heap.size ≤ g3 := Nat.le_trans hU7.size hg3
        have hO8' := own3 (hO7.sub (h' := [(g2, .cells #[.slice none 0 0, .int .i64 0] 24 (0, 0))]) (by simp)) hO8 hU8 hg3
        refine st_alloc ze24 hUw8 hO8' ?_
        intro g8 w9 hU9 hO9 hg8
        refine st_ring hU9 hO9 0 rfl rfl rfl (.inr hg8) ?_
        intro w10 hU10 hO10 e0 e1
        simp (disch := first | assumption | omega) only [PX, BX, LX, add_mk, Nat.reduceAdd]
        rw [step_run (show (sBuild 31 [(0, .int .i64 page), (1, .bool true)]).run Try.prog w10 = .ok (.value (.agg (frV ⟨page, true, 0⟩).toArray)) w10 by kernel_rfl)]
        rw [step_run (run_idxS u22 sz31 (by omega) (by omega)), add_mk, show 0 + ((i : Nat) : Int).toNat * 3 = i * 3 by omega]
        refine st_storeN (vs := frV ⟨page, true, 0⟩) (by rw [sz31]; rfl) hU10 hO10 1 rfl (by simp [framesV_len, frV]; omega) (frV_one _) (.inr hg3') ?_
        intro w11 hU11 hO11
        have e : (List.take (i * 3) (framesV fs).toArray.toList ++ frV ⟨page, true, 0⟩ ++ List.drop (i * 3 + (frV ⟨page, true, 0⟩).length) (framesV fs).toArray.toList).toArray = (framesV (fs.set i ⟨page, true, 0⟩)).toArray := by
          rw [framesV_set fs i hlt']; rfl
        rw [e] at hO11
        have hl : fs.length = (fs.set i ⟨page, true, 0⟩).length := by simp
        refine tell_ring (a := .slice none 0 0) (b := .int .i64 0) (fs := fs.set i ⟨page, true, 0⟩) (hand := hand) hU11 ?_ hg3' hg2 (by rw [← hl]; exact hm) hputR
        rw [← hl]
        exact hO11
      · by_cases h : j < i
        · exact hall j hj h
        · obtain rfl : j = i := by omega
          exact he
      · simp only [List.getD_cons_succ, List.getD_cons_zero, intOf]; omega
    · obtain rfl : i = fs.length := by omega
      unfold clock_Put_k2
      refine put_err hU3 0 hO3 rfl hg2 ?_
      rw [hputR, atI_no fun j hj => hall j hj hj, if_pos (by omega)]
  · rw [if_neg hmay]
    simp (disch := first | assumption | omega) only [PX, BX, clock_Put_k1]
    refine ⟨fun _ => put_err hU3 0 hO3 rfl hg2 (by unfold putR; rw [if_pos (.inl hmay)]), fun h => absurd (by decide) h⟩

end Go.Proofs.Ytnghnolpohahpaa
