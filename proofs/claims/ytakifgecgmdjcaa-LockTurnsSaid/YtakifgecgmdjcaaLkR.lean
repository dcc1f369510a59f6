/- Locks: LockStays. -/
import Derived.Test.YtakifgecgmdjcaaLkQ
namespace Go.Proofs.Ytakifgecgmdjcaa
open Go Xf Go.RowKit
set_option linter.unusedVariables false
set_option linter.unusedSimpArgs false
set_option maxRecDepth 100000

theorem he_at {w : World} {v : Value} {l : List He} {i : Nat} (hr : RdS w heV 2 v l) (hi : i < l.length) : ∃ a c, v = .slice (some a) l.length c ∧ ∀ w', Upd w w' [] → w'.cell? (a.add (i * 2 + 0)) = some (strV l[i].1) ∧ w'.cell? (a.add (i * 2 + 1)) = some (.int .i64 l[i].2) := by
  obtain ⟨A, c, rfl, hm, hrd⟩ := hr
  obtain ⟨a, rfl, hx⟩ := Rd.row (f := heV) (k := 2) (fun _ => rfl) (by omega) hrd hi
  have e : ((i : Nat) : Int).toNat = i := by omega
  rw [e] at hx
  exact ⟨a, c, rfl, fun w' hU => ⟨hx w' hU 0 _ rfl, hx w' hU 1 _ rfl⟩⟩
theorem he_len {w : World} {v : Value} {l : List He} (hr : RdS w heV 2 v l) : ∃ A c, v = .slice A l.length c := by
  obtain ⟨A, c, rfl, -⟩ := hr; exact ⟨A, c, rfl⟩
theorem RowH.he {w : World} {v : Value} {l : List He} {h F : List (Nat × Obj)} (hr : RowH 38 2 v l.length (hesV l) h) (hO : Owns w (h ++ F)) (hl : l.length ≤ 1000) : RdS w heV 2 v l := by
  obtain ⟨A, c, rfl⟩ := RowH.sl' hr
  exact ⟨A, c, rfl, Nat.le_trans hl (by decide), hr.rd hO⟩
section
variable {W w w' : World} {F G : List (Nat × Obj)} {T T' : Tb} {g : Nat} {K : Value → World → Prop}
/-- the test of one round: each that was there is there -/
theorem Stays_k4 {B : Nat} {hl : List (Nat × Obj)} {txn : Int} {vs : List Value} {again : List Value → World → Prop} {Q : Value → World → Prop} (hT : TbAt W [] hl T' g w) (hr : RowH 38 2 (vs.getD 0 undef) (heldT T txn).length (hesV (heldT T txn)) hl) (hlen : (heldT T txn).length ≤ 500) (hok : okT T' B) (hB : B ≤ 500) (hle : ∀ s, LeM (hasT T txn s) (hasT T' txn s))
    (hk : ∀ v' w', HeldPost W [] [] (heldT T' txn) T' g v' w' → flotillalaw13_LockStays_k2 (std Try.prog) vs again v' w' Q) :
    flotillalaw13_LockStays_k4 (std Try.prog) (.int .i64 txn) (.pointer (some ⟨g, 0, none⟩)) vs again w Q := by
  unfold flotillalaw13_LockStays_k4
  refine st_call (Held_spec hT hok hB txn) ?_
  rintro v2 w1 ⟨hl2, hr2, hT1, hm2⟩
  have hlen2 := heldT_len hok txn
  have hR2 := hr2.he hT1.owns (by omega)
  have hR1 := hr.he (hT1.owns.perm List.perm_append_comm) (by omega)
  have hkept := fun p (hp : p ∈ heldT T txn) => kept_of_le hle hp
  generalize heldT T txn = was at hR1 hkept hlen
  generalize hnw : heldT T' txn = now at hR2 hkept hlen2
  generalize hv0 : vs.getD 0 undef = v1 at hR1
  obtain ⟨A1, c1, rfl⟩ := he_len hR1
  obtain ⟨A2, c2, rfl⟩ := he_len hR2
  refine st_loop (fun vs2 w' => ∃ i : Nat, i ≤ was.length ∧ vs2.getD 0 undef = .int .i64 i ∧ Upd w1 w' []) (fun vs2 _ => was.length - (intOf (vs2.getD 0 undef)).toNat) ⟨0, Nat.zero_le _, rfl, Upd.refl _ _⟩ ?_
  rintro dv2 vs2 w2 - ⟨i, hi, e0, hU2⟩
  simp (disch := first | assumption | omega) only [e0, PX, BX]
  refine ⟨fun hlt => ?_, fun hge => ?_⟩
  rotate_left
  · unfold flotillalaw13_LockStays_k5
    refine hk _ w2 ⟨hl2, by rw [hnw] at hr2 ⊢; exact hr2, ?_, hm2⟩
    rw [List.append_nil]
    exact (hT1.upd hU2).weak (List.sublist_append_left _ _)
  have hi' : i < was.length := by omega
  obtain ⟨a1, c1', he1, hc1⟩ := he_at hR1 hi'
  injection he1 with q1 q2 q3
  subst q1
  refine st_loop (fun vs3 w' => ∃ (j : Nat) (b : Bool), j ≤ now.length ∧ vs3.getD 0 undef = .bool b ∧ vs3.getD 1 undef = .int .i64 j ∧ Upd w1 w' [] ∧ ((∃ p ∈ now.take j, p.1 = was[i].1 ∧ cov (sureN p.2) (sureN was[i].2) = true) → b = true)) (fun vs3 _ => now.length - (intOf (vs3.getD 1 undef)).toNat) ⟨0, false, Nat.zero_le _, rfl, rfl, hU2, by rintro ⟨p, hp, -⟩; simp at hp⟩ ?_
  rintro dv3 vs3 w3 - ⟨j, b, hj, f0, f1, hU3, hb⟩
  simp (disch := first | assumption | omega) only [f0, f1, PX, BX]
  refine ⟨fun hlt3 => ?_, fun hge3 => ?_⟩
  rotate_left
  · obtain rfl : j = now.length := by omega
    rw [List.take_length] at hb
    have : b = true := hb (hkept _ (List.getElem_mem hi'))
    subst this
    unfold flotillalaw13_LockStays_k6
    simp (disch := omega) only [e0, PX, BX, Bool.not_true, w64]
    refine ⟨⟨i + 1, by omega, rfl, hU3⟩, ?_⟩
    simp only [List.getD_cons_zero, intOf]; omega
  have hj' : j < now.length := by omega
  obtain ⟨a2, c2', he2, hc2⟩ := he_at hR2 hj'
  injection he2 with q1' q2' q3'
  subst q1'
  have hsucc : now.take (j + 1) = now.take j ++ [now[j]] := List.take_succ_eq_append_getElem hj'
  have hUd := hU3.trans (Upd.drew w3 [])
  have hne : ∃ w', (fun w' => Upd w1 w' []) w' := ⟨_, hUd⟩
  refine st_draw (fun w' => Upd w1 w' []) hUd ?_
  have g0 : ∀ w', Upd w1 w' [] → w'.cell? (a1.add (i * 2 + 0)) = some (strV was[i].1) := fun w' h => (hc1 w' h).1
  have g1 : ∀ w', Upd w1 w' [] → w'.cell? (a1.add (i * 2 + 1)) = some (.int .i64 was[i].2) := fun w' h => (hc1 w' h).2
  have k0 : ∀ w', Upd w1 w' [] → w'.cell? (a2.add (j * 2 + 0)) = some (strV now[j].1) := fun w' h => (hc2 w' h).1
  have k1 : ∀ w', Upd w1 w' [] → w'.cell? (a2.add (j * 2 + 1)) = some (.int .i64 now[j].2) := fun w' h => (hc2 w' h).2
  rw [bool_var]
  refine ⟨fun hbt => ?_, fun hbf => ?_⟩
  · simp (disch := omega) only [PX, w64]
    refine ⟨⟨j + 1, true, by omega, rfl, rfl, hUd, fun _ => rfl⟩, ?_⟩
    simp only [List.getD_cons_succ, List.getD_cons_zero, intOf]; omega
  have hno : ¬ ∃ p ∈ now.take j, p.1 = was[i].1 ∧ cov (sureN p.2) (sureN was[i].2) = true := fun h => by rw [hb h] at hbf; cases hbf
  simp (disch := first | exact hne | assumption | omega) only [SX, SLX, add_add', mk_inj]
  rw [bool_dec]
  refine ⟨fun hnm => ?_, fun hnm => ?_⟩
  · refine st_call (rCovers_spec _ _ _) ?_
    rintro _ w4 ⟨rfl, rfl⟩
    refine st_keepT (fun _ => True) trivial ?_
    simp (disch := omega) only [PX, w64]
    refine ⟨⟨j + 1, _, by omega, rfl, rfl, hUd, ?_⟩, ?_⟩
    · rintro ⟨p, hp, h1, h2⟩
      rw [hsucc] at hp
      rcases List.mem_append.1 hp with hp | hp
      · exact absurd ⟨p, hp, h1, h2⟩ hno
      · rw [List.mem_singleton] at hp; subst hp; exact h2
    · simp only [List.getD_cons_succ, List.getD_cons_zero, intOf]; omega
  · simp (disch := omega) only [PX, w64]
    refine ⟨⟨j + 1, false, by omega, rfl, rfl, hUd, ?_⟩, ?_⟩
    · rintro ⟨p, hp, h1, h2⟩
      rw [hsucc] at hp
      rcases List.mem_append.1 hp with hp | hp
      · exact absurd ⟨p, hp, h1, h2⟩ hno
      · rw [List.mem_singleton] at hp; subst hp; exact absurd h1 hnm
    · simp only [List.getD_cons_succ, List.getD_cons_zero, intOf]; omega
end
end Go.Proofs.Ytakifgecgmdjcaa
