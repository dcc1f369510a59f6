/- Locks: LockBeside, put together. -/
import Derived.Test.YtakifgecgmdjcaaLkAC
namespace Go.Proofs.Ytakifgecgmdjcaa
open Go Xf Go.RowKit
set_option linter.unusedVariables false
set_option linter.unusedSimpArgs false
set_option maxRecDepth 100000

theorem int_at {w : World} {v : Value} {l : List Int} {i : Nat} (hr : Rd w 1 v l.length (intsV .i64 l)) (hi : i < l.length) : ∃ a c, v = .slice (some a) l.length c ∧ w.cell? (a.add i) = some (.int .i64 l[i]) := by
  obtain ⟨A, c, rfl, -, -, hx⟩ := hr
  obtain ⟨a, rfl, ha⟩ := hx i (.int .i64 l[i]) (by simp [intsV, hi])
  exact ⟨a, c, rfl, ha⟩
section
variable {W w w' : World} {F G : List (Nat × Obj)} {T : Tb} {g : Nat} {K : Value → World → Prop}
theorem TbAt.rdI {L : List Int} {v : Value} {hl : List (Nat × Obj)} {ks : List Nat} (hr : RowH 3 1 v L.length (intsV .i64 L) hl) (h : TbAt W ks F T g w) (hs : ∀ p ∈ hl, p ∈ F) : Rd w 1 v L.length (intsV .i64 L) :=
  hr.rd (F := []) ⟨by rw [List.append_nil]; rcases hr.2 with ⟨_, _, rfl⟩ | ⟨g', _, _, _, rfl, _⟩ <;> simp, fun p hp => h.owns.2 p (hs p (by simpa using hp))⟩
theorem TbAt.rdHe {l : List He} {v : Value} {hl : List (Nat × Obj)} {ks : List Nat} (hr : RowH 38 2 v l.length (hesV l) hl) (h : TbAt W ks F T g w) (hs : ∀ p ∈ hl, p ∈ F) (hlen : l.length ≤ 1000) : RdS w heV 2 v l :=
  hr.he (F := []) ⟨by rw [List.append_nil]; rcases hr.2 with ⟨_, _, rfl⟩ | ⟨g', _, _, _, rfl, _⟩ <;> simp, fun p hp => h.owns.2 p (hs p (by simpa using hp))⟩ hlen
theorem Beside_k3 {B : Nat} {v28 v16 : Value} {L : List Int} {i : Nat} {hl hl2 : List (Nat × Obj)} {vs : List Value} {again : List Value → World → Prop} {Q : Value → World → Prop} (hfine : Fine T B) (hB5 : B ≤ 500) (hT : TbAt W [] (hl2 ++ hl) T g w) (hrL : RowH 3 1 v16 L.length (intsV .i64 L) hl) (hLl : L.length ≤ 300000) (hlt : L.Pairwise (· < ·)) (hi : i < L.length) (hr2 : RowH 38 2 v28 (heldT T L[i]).length (hesV (heldT T L[i])) hl2) (e0 : vs.getD 0 undef = .int .i64 i)
    (hk : ∀ w', TbAt W [] (hl2 ++ hl) T g w' → flotillalaw13_LockBeside_k2 (std Try.prog) vs again w' Q) :
    flotillalaw13_LockBeside_k3 (std Try.prog) (.pointer (some ⟨g, 0, none⟩)) v16 vs again v28 w Q := by
  unfold flotillalaw13_LockBeside_k3
  obtain ⟨A, c, rfl⟩ := RowH.sl' hrL
  refine st_loop (fun vs2 w' => ∃ j : Nat, j ≤ i ∧ vs2.getD 0 undef = .int .i64 j ∧ TbAt W [] (hl2 ++ hl) T g w') (fun vs2 _ => i - (intOf (vs2.getD 0 undef)).toNat) ⟨0, Nat.zero_le _, rfl, hT⟩ ?_
  rintro dv2 vs2 w2 - ⟨j, hj, f0, hT2⟩
  simp (disch := first | assumption | omega) only [e0, f0, PX, BX]
  refine ⟨fun hlt2 => ?_, fun hge2 => hk w2 hT2⟩
  have hj' : j < L.length := by omega
  obtain ⟨a, c', he1, hc⟩ := int_at (hT2.rdI hrL fun p hp => List.mem_append_right _ hp) hj'
  injection he1 with q1 q2 q3
  subst q1
  simp (disch := first | assumption | omega) only [PX, LX, Nat.mul_one]
  refine st_call (Held_spec hT2 hfine.ok hB5 L[j]) ?_
  rintro v3 w3 ⟨hl3, hr3, hT3, hm3⟩
  have hb := hfine.good.beside (x := L[i]) (y := L[j]) (by have := List.pairwise_iff_getElem.1 hlt j i hj' hi (by omega); omega)
  have hle := heldT_len hfine.ok
  refine st_call (beside_spec (hT3.rdHe hr2 (fun p hp => List.mem_append_right _ (List.mem_append_left _ hp)) (by have := hle L[i]; omega)) (hT3.rdHe hr3 (fun p hp => List.mem_append_left _ hp) (by have := hle L[j]; omega)) hb (by have := hle L[i]; omega) (by have := hle L[j]; omega)) ?_
  rintro _ w4 ⟨rfl, hU4⟩
  simp (disch := omega) only [PX, Bool.not_true]
  rw [bool_var]
  refine ⟨fun h => (by cases h), fun _ => ?_⟩
  simp (disch := omega) only [f0, PX, w64]
  refine ⟨⟨j + 1, by omega, rfl, (hT3.upd hU4).weak (List.sublist_append_right _ _)⟩, ?_⟩
  simp only [List.getD_cons_zero, intOf]; omega
theorem LockBeside_spec (W : World) {v0 : Value} {ops : List LOp} (h0 : RdS W opV 4 v0 ops) (hops : ∀ o ∈ ops, okO o) :
    CallsR Try.prog 4 #[v0] W fun r w' => r = .bool true ∧ Upd W w' [] := by
  apply flotillalaw13_LockBeside_sound
  unfold flotillalaw13_LockBeside_x
  refine st_call (led_spec h0 (Upd.refl W []) (Owns.nil W)) ?_
  rintro _ w1 ⟨g, T, rfl, hg, hR, hT⟩
  simp (disch := first | assumption | omega) only [PX, BX]
  have hfine : Fine T 60 := (hR.fine fun o ho => hops o (List.mem_of_mem_take ho)).mono (List.length_take_le ..)
  refine st_call (Txns_spec hT hfine (by omega)) ?_
  rintro v w2 ⟨L, ⟨hl, hrL, hT2, -⟩, hlt, hmem, hLl⟩
  rw [List.append_nil] at hT2
  obtain ⟨A, c, rfl⟩ := RowH.sl' hrL
  refine st_loop (fun vs w' => ∃ i : Nat, i ≤ L.length ∧ vs.getD 0 undef = .int .i64 i ∧ TbAt W [] hl T g w') (fun vs _ => L.length - (intOf (vs.getD 0 undef)).toNat) ⟨0, Nat.zero_le _, rfl, hT2⟩ ?_
  rintro dv vs w3 - ⟨i, hi, e0, hT3⟩
  simp (disch := first | assumption | omega) only [e0, PX, BX]
  refine ⟨fun hlti => ?_, fun hge => ?_⟩
  rotate_left
  · unfold flotillalaw13_LockBeside_k1
    exact st_call (lives_spec hT3.1 (Owns.nil w3)) fun _ _ h => h
  have hi' : i < L.length := by omega
  obtain ⟨a, c', he1, hc⟩ := int_at (hT3.rdI hrL fun p hp => hp) hi'
  injection he1 with q1 q2 q3
  subst q1
  simp (disch := first | assumption | omega) only [PX, LX, Nat.mul_one]
  refine st_call (Held_spec hT3 hfine.ok (by omega) L[i]) ?_
  rintro v28 w4 ⟨hl2, hr2, hT4, hm2⟩
  obtain ⟨a', c'', he2, hc2⟩ := int_at (hT4.rdI hrL fun p hp => List.mem_append_right _ hp) hi'
  injection he2 with q1 q2 q3
  injection q1 with q1
  subst q1
  simp (disch := first | assumption | omega) only [PX, LX, Nat.mul_one]
  refine st_call (Waits_spec hT4 L[i]) ?_
  rintro _ w5 ⟨rfl, hT5⟩
  simp (disch := first | assumption | omega) only [PX]
  refine st_talloc ze_want hT5 ?_
  intro b7 w6 hT6 hb7
  have hisw : (aGet T.waits L[i]).isSome = true → aGet T.waits L[i] = some ((aGet T.waits L[i]).getD ⟨[], 0⟩) := fun h => by
    obtain ⟨x, hx⟩ := Option.isSome_iff_exists.1 h
    rw [hx]; rfl
  generalize (aGet T.waits L[i]).getD ⟨[], 0⟩ = wt at hisw
  refine st_tstoreN (vs := [strV wt.name, .int .i64 wt.mode]) (by rw [sz30]; rfl) hT6 rfl (by simp [Value.oneCell']) (.inr hb7) ?_
  intro w7 hT7
  have hT7 : TbAt W [] (wtBx b7 wt :: (hl2 ++ hl)) T g w7 := hT7
  refine Beside_in (T := T) (x := L[i]) (wt := wt) (b7 := b7) hfine (by omega) (hT7.rdHe hr2 (fun p hp => List.mem_cons_of_mem _ (List.mem_append_left _ hp)) (by have := heldT_len hfine.ok L[i]; omega)) (hT7.at_ (List.mem_cons_self ..)) hisw ?_
  intro w8 hU8
  refine Beside_k3 hfine (by omega) ((hT7.upd hU8).weak (List.sublist_cons_self ..)) hrL hLl hlt hi' hr2 e0 ?_
  intro w9 hT9
  unfold flotillalaw13_LockBeside_k2
  simp (disch := omega) only [e0, PX, w64]
  refine ⟨⟨i + 1, by omega, rfl, hT9.weak (List.sublist_append_right _ _)⟩, ?_⟩
  simp only [List.getD_cons_zero, intOf]; omega
end
end Go.Proofs.Ytakifgecgmdjcaa
