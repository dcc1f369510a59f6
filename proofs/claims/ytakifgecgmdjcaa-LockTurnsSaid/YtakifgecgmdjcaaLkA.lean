/- Locks: one name in memory; goes, would, first. -/
import Derived.Test.YtakifgecgmdjcaaMode
import Derived.Test.YtakifgecgmdjcaaMp
namespace Go.Proofs.Ytakifgecgmdjcaa
open Go Xf Go.RowKit
set_option linter.unusedVariables false
set_option linter.unusedSimpArgs false
set_option maxRecDepth 100000

/-- one name: who has it, and who waits -/
structure Nm where
  held : List (Int × Int)
  turns : List Int
  row : List Int
abbrev keyI : Int → Value := Value.int .i64
theorem keyI_ok : KeyOk Try.prog 3 keyI := KeyOk.int u3
theorem uHeld : Try.prog.underlying 67 = some (.map 3 28) := by kernel_rfl
theorem px_ext1 {P : Program} {a : Value} {w : World} {K : Value → World → Prop} : (std P).step (sExtract (.tuple #[a]) 0) w K = K a w := step_run rfl
def nmO (bh : Nat) (vt vr : Value) : Obj := .cells #[.map (some bh), vt, vr] 69 (0, 0)
def NmH (n : Nm) (g : Nat) (h : List (Nat × Obj)) : Prop :=
  ∃ bh oh vt vr ht hr, h = (g, nmO bh vt vr) :: (bh, oh) :: (ht ++ hr) ∧ MapO keyI keyI n.held oh ∧ RowH 3 1 vt n.turns.length (intsV .i64 n.turns) ht ∧ RowH 3 1 vr n.row.length (intsV .i64 n.row) hr
def goesB (n : Nm) (txn m : Int) : Bool := n.held.all fun p => decide (p.1 = txn) || bes (sureN p.2) (sureN m)
def wouldN (n : Nm) (txn m : Int) : Int := (joi (sureN ((aGet n.held txn).getD 0)) (sureN m) : Nat)
def firstN (n : Nm) : Int := match n.turns with | x :: _ => x | [] => match n.row with | x :: _ => x | [] => 0
theorem RowH.sl' {e : TypeId} {sz : Nat} {v : Value} {n : Nat} {xs : List Value} {h : List (Nat × Obj)} (hr : RowH e sz v n xs h) : ∃ A c, v = .slice A n c := by
  rcases hr.2 with ⟨h1, h2, _⟩ | ⟨g, cap, cs, h1, _, h3, _⟩
  · exact ⟨none, 0, by rw [h1, h2]⟩
  · exact ⟨_, cap, h1⟩
theorem NmH.look {n : Nm} {g : Nat} {h G : List (Nat × Obj)} (hn : NmH n g h) (hG : ∀ p ∈ h, p ∈ G) {w : World} (hO : Owns w G) : ∃ bh oh vt vr, w.heap[g]? = some (nmO bh vt vr) ∧ (bh, oh) ∈ G ∧ MapO keyI keyI n.held oh ∧
    Rd w 1 vt n.turns.length (intsV .i64 n.turns) ∧ Rd w 1 vr n.row.length (intsV .i64 n.row) ∧ w.cell? ⟨g, 0, none⟩ = some (.map (some bh)) ∧ w.cell? ⟨g, 1, none⟩ = some vt ∧ w.cell? ⟨g, 2, none⟩ = some vr := by
  obtain ⟨bh, oh, vt, vr, ht, hr, rfl, h1, h2, h3⟩ := hn
  have hg := hO.2 _ (hG _ (List.mem_cons_self ..))
  have st : ∀ (hx : List (Nat × Obj)) (v : Value) (k : Nat) (xs : List Value), RowH 3 1 v k xs hx → (∀ p ∈ hx, p ∈ G) → Rd w 1 v k xs := fun hx v k xs hrow hm =>
    hrow.rd (F := []) ⟨by rw [List.append_nil]; rcases hrow.2 with ⟨_, _, rfl⟩ | ⟨g', _, _, _, rfl, _⟩ <;> simp, fun p hp => hO.2 p (hm p (by simpa using hp))⟩
  exact ⟨bh, oh, vt, vr, hg, hG _ (by simp), h1, st ht _ _ _ h2 (fun p hp => hG p (by simp [hp])), st hr _ _ _ h3 (fun p hp => hG p (by simp [hp])), (cell_at hg).trans rfl, (cell_at hg).trans rfl, (cell_at hg).trans rfl⟩

section
variable {w W : World} {n : Nm} {g : Nat} {h G : List (Nat × Obj)}
theorem would_spec (hn : NmH n g h) (hG : ∀ p ∈ h, p ∈ G) (hO : Owns w G) (txn m : Int) :
    CallsR Try.prog 25 #[.pointer (some ⟨g, 0, none⟩), .int .i64 txn, .int .i64 m] w fun u w' => u = .int .i64 (wouldN n txn m) ∧ Upd w w' [] := by
  obtain ⟨bh, oh, vt, vr, hg, hm, hmap, -, -, c0, c1, c2⟩ := hn.look hG hO
  apply lock_name_would_sound
  unfold lock_name_would_x
  simp (disch := first | assumption | omega) only [PX, LX, add_mk, Nat.reduceAdd]
  rw [step_run (run_lookup uHeld keyI_ok ze28 (hO.2 _ hm) hmap txn false)]
  simp only [Bool.false_eq_true, if_false]
  have hv : ((aGet n.held txn).map keyI).getD (.int .i64 0) = .int .i64 ((aGet n.held txn).getD 0) := by cases aGet n.held txn <;> rfl
  rw [hv]
  refine st_call (Join_spec w _ m) ?_
  rintro _ w1 ⟨rfl, hU⟩
  exact ⟨rfl, hU⟩
theorem first_spec (hn : NmH n g h) (hG : ∀ p ∈ h, p ∈ G) (hO : Owns w G) :
    CallsR Try.prog 56 #[.pointer (some ⟨g, 0, none⟩)] w fun u w' => u = .int .i64 (firstN n) ∧ w' = w := by
  obtain ⟨bh, oh, vt, vr, hg, hm, hmap, r1, r2, c0, c1, c2⟩ := hn.look hG hO
  obtain ⟨A1, n1, rfl, -, -, hx1⟩ := r1
  obtain ⟨A2, n2, rfl, -, -, hx2⟩ := r2
  apply lock_name_first_sound
  unfold lock_name_first_x
  simp (disch := first | assumption | omega) only [PX, LX, BX, add_mk, Nat.reduceAdd]
  refine ⟨fun h0 => ?_, fun h0 => ⟨fun h1 => ?_, fun h1 => ?_⟩⟩
  · obtain ⟨x, l, hx⟩ := List.exists_cons_of_ne_nil (show n.turns ≠ [] by intro hh; rw [hh] at h0; simp at h0)
    obtain ⟨a, rfl, ha⟩ := hx1 0 (.int .i64 x) (by rw [hx]; rfl)
    have h00 : 0 < n.turns.length := by omega
    rw [step_run (run_idxS (i := 0) u42 sz3 (by omega) (by omega))]
    simp (disch := first | assumption | omega) only [Int.toNat_zero, Nat.zero_mul, LX]
    exact ⟨by unfold firstN; rw [hx], trivial⟩
  · obtain ⟨x, l, hx⟩ := List.exists_cons_of_ne_nil (show n.row ≠ [] by intro hh; rw [hh] at h1; simp at h1)
    obtain ⟨a, rfl, ha⟩ := hx2 0 (.int .i64 x) (by rw [hx]; rfl)
    rw [step_run (run_idxS (i := 0) u42 sz3 (by omega) (by omega))]
    simp (disch := first | assumption | omega) only [Int.toNat_zero, Nat.zero_mul, LX]
    have ht : n.turns = [] := List.eq_nil_of_length_eq_zero (by omega)
    exact ⟨by unfold firstN; rw [ht, hx], trivial⟩
  · have ht : n.turns = [] := List.eq_nil_of_length_eq_zero (by omega)
    have hr : n.row = [] := List.eq_nil_of_length_eq_zero (by omega)
    exact ⟨by unfold firstN; rw [ht, hr], trivial⟩
theorem goes_spec (hn : NmH n g h) (hG : ∀ p ∈ h, p ∈ G) (hO : Owns w G) (txn m : Int) :
    CallsR Try.prog 26 #[.pointer (some ⟨g, 0, none⟩), .int .i64 txn, .int .i64 m] w fun u w' => u = .bool (goesB n txn m) ∧ Upd w w' [] := by
  obtain ⟨bh, oh, vt, vr, hg, hm, hmap, -, -, c0, c1, c2⟩ := hn.look hG hO
  apply lock_name_goes_sound
  unfold lock_name_goes_x lock_name_goes_k1
  simp (disch := first | assumption | omega) only [PX, LX, add_mk, Nat.reduceAdd]
  obtain ⟨j0, hj0⟩ := List.getElem?_of_mem hm
  refine st_range uHeld (Upd.refl w []) hO j0 hj0 hmap ?_
  intro r w1 ob hI hU1 hO1 hr
  let I : Nat → List Value → World → Prop := fun k vs w' => ∃ left ob, k = left.length ∧ IterH keyI keyI bh oh left ob ∧ Owns w' ((r, ob) :: G) ∧ Upd w w' [] ∧ goesB n txn m = left.all fun p => decide (p.1 = txn) || bes (sureN p.2) (sureN m)
  refine st_loop (fun vs w' => ∃ k, I k vs w') (minK I) ⟨_, _, ob, rfl, hI, hO1, hU1, rfl⟩ ?_
  rintro dv vs w2 - hex
  obtain ⟨⟨left, ob2, hk, hI2, hO2, hU2, hgo⟩, -⟩ := minK_spec hex
  generalize minK I vs w2 = k at hk
  refine st_next hU2 hO2 0 rfl (j0 + 1) (by rw [List.getElem?_cons_succ]; exact hj0) hI2 (.inr hr) ?_ ?_
  · rintro rfl
    rw [px_ext1]
    simp only [BX]
    exact ⟨by rw [hgo]; rfl, hU2⟩
  · intro p left' w3 ob3 hperm hI3 hent hU3 hO3
    have hO3 : Owns w3 ((r, ob3) :: G) := hO3
    have hgo3 : goesB n txn m = ((decide (p.1 = txn) || bes (sureN p.2) (sureN m)) && left'.all fun p => decide (p.1 = txn) || bes (sureN p.2) (sureN m)) := by
      rw [hgo, ← hperm.all_eq]; rfl
    have hlen := hperm.length_eq
    simp only [List.length_cons] at hlen
    simp only [PX, BX]
    rw [step_run (hent w3 (hO3.at_ 0 rfl) (hO3.2 _ (List.mem_cons_of_mem _ hm)))]
    simp only [PX, BX]
    refine ⟨fun hne => ?_, fun he => ?_⟩
    · refine st_call (Beside_spec w3 p.2 m) ?_
      rintro _ w4 ⟨rfl, hU4⟩
      simp only [PX, BX]
      rw [bool_var]
      refine ⟨fun hb => ?_, fun hb => ?_⟩
      · refine minK_go (I := I) ⟨left', ob3, rfl, hI3, hO3.ext hU4, hU3.trans hU4, ?_⟩ (by omega)
        rw [hgo3, hb, Bool.or_true, Bool.true_and]
      · refine ⟨?_, hU3.trans hU4⟩
        rw [hgo3, hb, decide_eq_false hne]; rfl
    · refine minK_go (I := I) ⟨left', ob3, rfl, hI3, hO3, hU3, ?_⟩ (by omega)
      rw [hgo3, decide_eq_true (show p.1 = txn from Decidable.not_not.1 he), Bool.true_or, Bool.true_and]
end
end Go.Proofs.Ytakifgecgmdjcaa
