/- How many frames are not pinned; what is told. -/
import Derived.Test.YtnghnolpohahpaaS11
namespace Go.Proofs.Ytnghnolpohahpaa
open Go Xf Go.RowKit
set_option linter.unusedVariables false
set_option linter.unusedSimpArgs false
set_option maxRecDepth 100000

def looseN (fs : List Fr) : Nat := fs.countP fun f => f.pins == 0
theorem looseN_zero {fs : List Fr} (h : ∀ (i : Nat) (hi : i < fs.length), fs[i].pins ≠ 0) : looseN fs = 0 := by
  unfold looseN
  rw [List.countP_eq_zero]
  intro f hf
  obtain ⟨i, hi, rfl⟩ := List.getElem_of_mem hf
  simpa using h i hi
theorem looseN_take {fs : List Fr} {i : Nat} (hi : i < fs.length) : looseN (fs.take (i + 1)) = looseN (fs.take i) + if fs[i].pins = 0 then 1 else 0 := by
  unfold looseN
  rw [List.take_succ_eq_append_getElem hi, List.countP_append]
  simp [List.countP_cons]
theorem looseN_le (fs : List Fr) (i : Nat) : looseN (fs.take i) ≤ i := by
  unfold looseN
  refine Nat.le_trans List.countP_le_length ?_
  simp; omega

theorem loose_spec (w : World) (v : Value) (fs : List Fr) (hand : Int) (hr : RingAt w v fs hand) :
    CallsR Try.prog 17 #[v] w fun r w' => r = .int .i64 (looseN fs) ∧ Upd w w' [] := by
  apply flotillalaw14_loose_sound
  unfold flotillalaw14_loose_x
  obtain ⟨A, c, rfl, hm, hrd⟩ := hr
  refine st_box (Upd.refl w []) (Owns.nil w) ?_
  intro g w1 hU1 hO1 hg
  refine st_loop (fun vs w' => ∃ i : Nat, i ≤ fs.length ∧ vs.getD 0 undef = .int .i64 (looseN (fs.take i)) ∧ vs.getD 1 undef = .int .i64 i ∧ w' = w1) (fun vs _ => fs.length - (intOf (vs.getD 1 undef)).toNat) ⟨0, by omega, rfl, rfl, rfl⟩ ?_
  rintro dv vs w2 - ⟨i, hi, e0, e1, rfl⟩
  have c0 : w2.cell? ⟨g, 0, none⟩ = some (.slice A fs.length c) := cell_at (hO1.at_ 0 rfl)
  simp (disch := first | assumption | omega) only [PX, BX, LX, e0, e1]
  have h63 : fs.length ≤ 9223372036854775807 := by unfold maxLen at hm; omega
  refine ⟨fun hlt => ?_, fun hge => ?_⟩
  · have hlt' : i < fs.length := by omega
    obtain ⟨a, rfl, hc⟩ := Rd.row (f := frV) (fun _ => rfl) (by decide) hrd hlt'
    have k2 := hc w2 hU1 2 _ rfl
    rw [step_run (run_idxS u22 sz31 (by omega) hlt)]
    have hle := looseN_le fs i
    simp (disch := first | assumption | omega) only [PX, BX, LX, add_add', flotillalaw14_loose_k2, e1, w64]
    have hdec : fs.length - ((i : Int) + 1).toNat < fs.length - (i : Int).toNat := by omega
    refine ⟨fun hp => ⟨⟨i + 1, by omega, ?_, rfl, trivial⟩, hdec⟩, fun hp => ⟨⟨i + 1, by omega, ?_, rfl, trivial⟩, hdec⟩⟩
    · rw [looseN_take hlt', if_pos hp]; rfl
    · rw [looseN_take hlt', if_neg hp]; rfl
  · obtain rfl : i = fs.length := by omega
    unfold flotillalaw14_loose_k1
    rw [List.take_length]
    exact ⟨rfl, hU1⟩

theorem RingF.rd {fs : List Fr} {A : Option Addr} {c b : Nat} {F h : List (Nat × Obj)} (hf : RingF fs A c F b) {w : World} (hO : Owns w (h ++ F)) : Rd w 3 (.slice A fs.length c) fs.length (framesV fs) := by
  obtain ⟨hm, ⟨rfl, rfl, rfl, rfl⟩ | ⟨g, _, rfl, rfl, rfl⟩⟩ := hf
  · exact Rd.nil_ _ _
  · exact rd_own rfl (hO.at_ h.length (by simp : (h ++ [(g, Obj.cells (framesV fs).toArray 31 (0, 0))])[h.length]? = some (g, Obj.cells (framesV fs).toArray 31 (0, 0))))
theorem sidx22 {S : World → Prop} {a : Addr} {n c i : Nat} {k : Value → Prop} (hne : ∃ w, S w) (h : i < n) : (std Try.prog).stepS S (sIndexAddr 22 (.slice (some a) n c) (.int .i64 (i : Nat))) k = k (.pointer (some (a.add (i * 3)))) := by
  rw [stepS_run hne fun w' hw => run_idxS u22 sz31 (by omega) (by omega), show ((i : Nat) : Int).toNat = i by omega]
theorem idx22 {w : World} {a : Addr} {n c i : Nat} {K : Value → World → Prop} (h : i < n) : (std Try.prog).step (sIndexAddr 22 (.slice (some a) n c) (.int .i64 (i : Nat))) w K = K (.pointer (some (a.add (i * 3)))) w := by
  rw [step_run (run_idxS u22 sz31 (by omega) (by omega)), show ((i : Nat) : Int).toNat = i by omega]
theorem fr_at {w : World} {A : Option Addr} {n c : Nat} {fs : List Fr} (hr : Rd w 3 (.slice A n c) n (framesV fs)) {i : Nat} (hi : i < fs.length) : ∃ a, A = some a ∧ (∀ w', Upd w w' [] → w'.cell? (a.add (i * 3)) = some (.int .i64 fs[i].page)) ∧ (∀ w', Upd w w' [] → w'.cell? (a.add (i * 3 + 1)) = some (.bool fs[i].used)) ∧ (∀ w', Upd w w' [] → w'.cell? (a.add (i * 3 + 2)) = some (.int .i64 fs[i].pins)) := by
  obtain ⟨a, ha, hc⟩ := Rd.row (f := frV) (fun _ => rfl) (by decide) hr hi
  rw [show ((i : Nat) : Int).toNat = i by omega] at hc
  exact ⟨a, ha, fun w' h => hc w' h 0 _ rfl, fun w' h => hc w' h 1 _ rfl, fun w' h => hc w' h 2 _ rfl⟩

theorem ClockSpares_spec (W : World) (n : Int) (v : Value) (l : List Ask) (hr : RdS W askV 3 v l) (hl : ∀ o ∈ l, in64 o.kind ∧ in64 o.page ∧ in64 o.n) :
    CallsR Try.prog 6 #[.int .i64 n, v] W fun r w' => r = .bool true ∧ Upd W w' [] := by
  apply flotillalaw14_ClockSpares_sound
  unfold flotillalaw14_ClockSpares_x
  refine st_call (made_spec W n v l hr hl) ?_
  rintro r w1 ⟨fs, hand, hG, hr1, hU1⟩
  have hr1' := hr1
  obtain ⟨A, c, rfl, hm, hrd⟩ := hr1
  refine st_alloc ze24 (Upd.refl w1 []) (Owns.nil w1) ?_
  intro g5 w2 hU2 hO2 hg5
  refine st_ring hU2 hO2 0 rfl rfl rfl (.inr hg5) ?_
  intro w3 hU3 hO3 d0 d1
  have hr3 := hr1'.mono hU3
  have hrd3 := hrd.mono hU3
  have hU3 := hU1.trans hU3
  simp (disch := first | assumption | omega) only [PX, BX, LX, ld24, flotillalaw14_ClockSpares_k1, flotillalaw14_ClockSpares_k2]
  have fin : ∀ w', Upd W w' [] → (std Try.prog).calls 10 #[] w' fun r w_1 => r = .bool true ∧ Upd W w_1 [] := fun w' hU => st_call (lives_spec w') fun v w4 h => ⟨h.1, hU.trans h.2⟩
  refine ⟨fun h0 => ⟨fun _ => fin _ hU3, fun hn1 => ⟨fun _ => fin _ hU3, fun hn2 => ?_⟩⟩, fun h0 => ?_⟩
  · rcases hG with ⟨hn, _⟩ | ⟨hn, hmay, hl⟩
    · omega
    · omega
  rcases hG with ⟨hn, rfl, _⟩ | ⟨hn, hmay, hlen⟩
  · exact absurd rfl h0
  refine st_call (Next_spec w3 _ fs hand hr3) ?_
  intro r w4 hE
  obtain ⟨A', c', hd, e, i', fs', F', rfl, hU4, hF', hOF, hres⟩ := nextE_out hE
  have hO4 := owns_join hO3 hU4 hF' hOF
  have hr4 := hr3.mono hU4
  have hUW4 := hU3.trans hU4
  rw [px_ext30, px_ext31, px_ext32]
  refine st_alloc ze24 (Upd.refl w4 []) hO4 ?_
  intro g7 w5 hU5 hO5 hg7
  refine st_ring hU5 hO5 0 rfl rfl rfl (.inr hg7) ?_
  intro w6 hU6 hO6 x0 x1
  have hUW6 := hUW4.trans hU6
  have d0 : w6.cell? ⟨g5, 0, none⟩ = some (.slice A fs.length c) := cell_at (hO6.at_ 1 rfl)
  have d1 : w6.cell? ⟨g5, 1, none⟩ = some (.int .i64 hand) := cell_at (hO6.at_ 1 rfl)
  simp (disch := first | assumption | omega) only [PX, BX, LX, ld24]
  rcases hres with hx | ⟨rfl, h', rfl, hx⟩
  · obtain ⟨rfl, hall⟩ := next_none hmay hx
    refine ⟨fun _ => ⟨fun _ => ?_, fun h => absurd rfl h⟩, fun h => absurd (by decide) h⟩
    refine st_call (loose_spec w6 _ fs hand (hr4.mono hU6)) ?_
    rintro _ w7 ⟨rfl, hU7⟩
    rw [looseN_zero hall]
    simp (disch := first | assumption | omega) only [PX, BX]
    exact ⟨fun _ => fin _ (hUW6.trans hU7), fun h => absurd rfl h⟩
  refine ⟨fun h => absurd rfl h, fun _ => ?_⟩
  obtain ⟨_, hmay', hle, hh', hil', htold⟩ := next_some hx
  have hl' := hle.1
  have hil : i' < fs.length := by omega
  let hb := [(g7, Obj.cells #[.slice A' fs'.length c', .int .i64 (h' : Nat)] 24 (0, 0)), (g5, Obj.cells #[.slice A fs.length c, .int .i64 hand] 24 (0, 0))]
  have hS : SU w4 hb w6.drew := SU.drew hU6 (hO6.sub (.cons_cons _ (.cons_cons _ (List.nil_sublist _))))
  have hne : ∃ w', SU w4 hb w' := ⟨_, hS⟩
  have d0 : ∀ w', SU w4 hb w' → w'.cell? ⟨g5, 0, none⟩ = some (.slice A fs.length c) := fun w' h => cell_at (h.2.at_ 1 rfl)
  have x0 : ∀ w', SU w4 hb w' → w'.cell? ⟨g7, 0, none⟩ = some (.slice A' fs'.length c') := fun w' h => cell_at (h.2.at_ 0 rfl)
  have x1 : ∀ w', SU w4 hb w' → w'.cell? ⟨g7, 1, none⟩ = some (.int .i64 (h' : Nat)) := fun w' h => cell_at (h.2.at_ 0 rfl)
  have hrd4 := hrd3.mono hU4
  have hrd4' := hF'.rd hO4
  obtain ⟨a, rfl, p0, p1, p2⟩ := fr_at hrd4 hil
  clear p0 p1
  have p2' : ∀ w', SU w4 hb w' → w'.cell? (a.add (i' * 3 + 2)) = some (.int .i64 fs[i'].pins) := fun w' h => p2 w' h.1
  refine st_draw (SU w4 hb) hS ?_
  have hn16 := hmay.2.1
  simp (disch := first | assumption | omega) only [SX, SLX, BX, add_mk, Nat.zero_add, add_add', flotillalaw14_ClockSpares_k3, sidx22, w64]
  refine ⟨fun h => absurd h (by omega), fun _ => ⟨fun h => absurd h (by omega), fun _ => ⟨fun h => ?_, fun _ => ⟨fun h => absurd (by rw [hl']) h, fun _ => ⟨fun h => ?_, fun _ => ?_⟩⟩⟩⟩⟩
  · exfalso
    obtain ⟨y1, y2, y3⟩ := hle.2 i' hil hil'
    rcases htold with h1 | h1
    · have := ((hmay'.2.2.2.2 i' hil').1.2.2.2.2 h1).2
      omega
    · omega
  · exfalso
    apply h
    rw [hh']
    exact (tmod_nat (i' + 1) fs.length).symm
  refine st_loop (fun vs w' => ∃ k : Nat, k ≤ fs'.length ∧ vs.getD 0 undef = .int .i64 k ∧ SU w4 hb w') (fun vs _ => fs'.length - (intOf (vs.getD 0 undef)).toNat) ⟨0, by omega, rfl, hS⟩ ?_
  rintro dv vs w7 - ⟨k, hk, e0, hS7⟩
  have y0 := x0 w7 hS7
  simp (disch := first | assumption | omega) only [PX, LX, BX, e0, flotillalaw14_ClockSpares_k4, flotillalaw14_ClockSpares_k6]
  refine ⟨fun hlt => ?_, fun hge => fin _ (hUW4.trans hS7.1)⟩
  have hk' : k < fs'.length := by omega
  have hk2 : k < fs.length := by omega
  obtain ⟨a1, he, q0, q1, q2⟩ := fr_at hrd4 hk2
  injection he with he; subst he
  obtain ⟨a', rfl, r0, r1, r2⟩ := fr_at hrd4' hk'
  have q0' : ∀ w', SU w4 hb w' → w'.cell? (a.add (k * 3)) = some (.int .i64 fs[k].page) := fun w' h => q0 w' h.1
  have q1' : ∀ w', SU w4 hb w' → w'.cell? (a.add (k * 3 + 1)) = some (.bool fs[k].used) := fun w' h => q1 w' h.1
  have q2' : ∀ w', SU w4 hb w' → w'.cell? (a.add (k * 3 + 2)) = some (.int .i64 fs[k].pins) := fun w' h => q2 w' h.1
  have r0' : ∀ w', SU w4 hb w' → w'.cell? (a'.add (k * 3)) = some (.int .i64 fs'[k].page) := fun w' h => r0 w' h.1
  have r1' : ∀ w', SU w4 hb w' → w'.cell? (a'.add (k * 3 + 1)) = some (.bool fs'[k].used) := fun w' h => r1 w' h.1
  have r2' : ∀ w', SU w4 hb w' → w'.cell? (a'.add (k * 3 + 2)) = some (.int .i64 fs'[k].pins) := fun w' h => r2 w' h.1
  have hS8 : SU w4 hb w7.drew := SU.drew hS7.1 hS7.2
  refine st_draw (SU w4 hb) hS8 ?_
  simp (disch := first | assumption | omega) only [SX, SLX, PX, BX, add_mk, Nat.zero_add, add_add', flotillalaw14_ClockSpares_k5, sidx22, w64, e0]
  obtain ⟨y1, y2, y3⟩ := hle.2 k hk2 hk'
  have again : (∃ k_1 : Nat, k_1 ≤ fs'.length ∧ [Value.int .i64 ((k : Int) + 1)].getD 0 undef = .int .i64 (k_1 : Nat) ∧ SU w4 hb w7.drew) ∧ fs'.length - (intOf ([Value.int .i64 ((k : Int) + 1)].getD 0 undef)).toNat < fs'.length - (intOf (.int .i64 (k : Nat))).toNat := by
    refine ⟨⟨k + 1, by omega, rfl, hS8⟩, ?_⟩
    simp only [List.getD_cons_zero, intOf]; omega
  refine ⟨fun h => absurd y1 h, fun _ => ⟨fun h => absurd y2 h, fun _ => ?_⟩⟩
  rw [bool_var, bool_var]
  exact ⟨fun hu => ⟨fun _ => again, fun h => by rw [y3 hu] at h; cases h⟩, fun _ => again⟩
end Go.Proofs.Ytnghnolpohahpaa
