/- Nil books; OwnNils. -/
import Derived.Test.YtilfkccahlkcaaaS9
namespace Go.Proofs.Ytilfkccahlkcaaa
open Go Xf Go.RowKit
set_option linter.unusedVariables false
set_option linter.unusedSimpArgs false
set_option maxRecDepth 100000

section
variable (w : World) (page inst : Int)
theorem Need_nil : CallsR Try.prog 11 #[.pointer none, .int .i64 page, .int .i64 inst] w fun r w' => r = .tuple #[.slice none 0 0, .int .i64 1] ∧ w' = w := by
  apply own_Book_Need_sound
  unfold own_Book_Need_x
  refine st_call (find_nil page w) ?_
  rintro _ _ ⟨rfl, rfl⟩
  simp only [NP, BX]
  exact ⟨trivial, trivial⟩
theorem Back_nil : CallsR Try.prog 12 #[.pointer none, .int .i64 page, .int .i64 inst] w fun r w' => r = .tuple #[.slice none 0 0, .int .i64 1] ∧ w' = w := by
  apply own_Book_Back_sound
  unfold own_Book_Back_x
  refine st_call (find_nil page w) ?_
  rintro _ _ ⟨rfl, rfl⟩
  simp only [NP, BX]
  exact ⟨trivial, trivial⟩
theorem Mend_nil : CallsR Try.prog 14 #[.pointer none, .int .i64 page] w fun r w' => r = .tuple #[.slice none 0 0, .int .i64 1] ∧ w' = w := by
  apply own_Book_Mend_sound
  unfold own_Book_Mend_x
  refine st_call (find_nil page w) ?_
  rintro _ _ ⟨rfl, rfl⟩
  simp only [NP, BX]
  exact ⟨trivial, trivial⟩
theorem Owner_nil : CallsR Try.prog 16 #[.pointer none, .int .i64 page] w fun r w' => r = .int .i64 0 ∧ w' = w := by
  apply own_Book_Owner_sound
  unfold own_Book_Owner_x
  refine st_call (find_nil page w) ?_
  rintro _ _ ⟨rfl, rfl⟩
  simp only [NP, BX]
  exact ⟨trivial, trivial⟩
theorem Waits_nil : CallsR Try.prog 18 #[.pointer none, .int .i64 page] w fun r w' => r = .slice none 0 0 ∧ w' = w := by
  apply own_Book_Waits_sound
  unfold own_Book_Waits_x
  refine st_call (find_nil page w) ?_
  rintro _ _ ⟨rfl, rfl⟩
  simp only [NP, BX]
  exact ⟨trivial, trivial⟩
theorem Lost_nil : CallsR Try.prog 17 #[.pointer none, .int .i64 page] w fun r w' => r = .bool false ∧ w' = w := by
  apply own_Book_Lost_sound
  unfold own_Book_Lost_x
  refine st_call (find_nil page w) ?_
  rintro _ _ ⟨rfl, rfl⟩
  simp only [NP, BX]
  exact ⟨trivial, trivial⟩
theorem Fast_nil : CallsR Try.prog 25 #[.pointer none, .int .i64 page] w fun r w' => r = .bool false ∧ w' = w := by
  apply own_Book_Fast_sound
  unfold own_Book_Fast_x
  refine st_call (find_nil page w) ?_
  rintro _ _ ⟨rfl, rfl⟩
  simp only [NP, BX]
  exact ⟨trivial, trivial⟩
theorem Has_nil : CallsR Try.prog 19 #[.pointer none, .int .i64 inst] w fun r w' => r = .slice none 0 0 ∧ w' = w := by
  apply own_Book_Has_sound
  unfold own_Book_Has_x
  simp only [NP, BX, own_Book_Has_k1]
  exact ⟨trivial, trivial⟩
theorem Fail_nil : CallsR Try.prog 13 #[.pointer none, .int .i64 inst] w fun r w' => r = .slice none 0 0 ∧ Upd w w' [] := by
  apply own_Book_Fail_sound
  unfold own_Book_Fail_x
  refine st_box (Upd.refl w []) (Owns.nil w) ?_
  intro g w1 hU hO hg
  simp only [NP, BX]
  exact ⟨trivial, hU⟩
end

theorem lfAt_new {n : Nat} {fl : List Bool} {p : Int} (h0 : 0 ≤ p) (h1 : p < n) : lfAt (newL n fl) p = ⟨0, false, false, fl.getD p.toNat false, []⟩ := by
  obtain ⟨i, rfl⟩ : ∃ i : Nat, p = i := ⟨p.toNat, by omega⟩
  rw [lfAt_nat (by rw [newL_len]; omega)]
  simp [newL]
theorem need_new {n : Nat} {fl : List Bool} {p i : Int} (h0 : 0 ≤ p) (h1 : p < n) (hi : 1 ≤ i) (hi8 : i ≤ 8) :
    needL (newL n fl) p i = ((newL n fl).set p.toNat ⟨i, false, false, fl.getD p.toNat false, []⟩, [⟨1, p, 0, i, fl.getD p.toNat false⟩], 0) := by
  unfold needL
  rw [if_pos ⟨h0, by rw [newL_len]; exact h1, hi, hi8⟩, lfAt_new h0 h1, if_neg (by simp; omega)]
  simp [serveL, giveL, callL]

theorem st_true {P : Program} {b : Bool} {A B : Prop} (h : b = true) (hA : A) : (std P).bool (.bool b) A B := by rw [h, bool_true]; exact hA
theorem row22 (w : World) : (sBuildSlice 22 1 [(0, .bool true)]).run Try.prog w = .ok (.value (.slice (some ⟨w.heap.size, 0, none⟩) 1 1)) (w.alloc (.cells #[.bool true] 4)) := by kernel_rfl
theorem OwnNils_spec (w : World) (page inst : Int) : CallsR Try.prog 8 #[.int .i64 page, .int .i64 inst] w fun r w' => r = .bool true ∧ Upd w w' [] := by
  apply flotillalaw20_OwnNils_sound
  unfold flotillalaw20_OwnNils_x
  refine st_call (Need_nil w page inst) ?_
  rintro _ w1 ⟨rfl, he⟩
  subst w1
  simp only [PX]
  refine st_call (Back_nil w page inst) ?_
  rintro _ w1 ⟨rfl, he⟩
  subst w1
  simp only [PX]
  refine st_call (Mend_nil w page) ?_
  rintro _ w1 ⟨rfl, he⟩
  subst w1
  simp (disch := omega) only [PX, BX, w64, ne_eq]
  refine ⟨fun h => absurd h (by simp [IntKind.wrap_i64]), fun _ => ⟨fun h => absurd trivial h, fun _ => ⟨fun h => absurd trivial h, fun _ => ⟨fun h => absurd trivial h, fun _ => ?_⟩⟩⟩⟩
  refine st_call (Owner_nil w page) ?_
  rintro _ w1 ⟨rfl, he⟩
  subst w1
  refine st_call (Waits_nil w page) ?_
  rintro _ w1 ⟨rfl, he⟩
  subst w1
  simp (disch := omega) only [PX, w64]
  refine st_call (Has_nil w inst) ?_
  rintro _ w1 ⟨rfl, he⟩
  subst w1
  simp (disch := omega) only [PX, w64]
  refine st_call (Fail_nil w inst) ?_
  rintro _ w1 ⟨rfl, hU1⟩
  simp (disch := omega) only [PX, BX, w64]
  refine ⟨fun h => absurd h (by simp), fun _ => ?_⟩
  refine st_call (Lost_nil w1 page) ?_
  rintro _ w2 ⟨rfl, he⟩
  subst w2
  simp only [BX]
  refine st_call (Fast_nil w1 page) ?_
  rintro _ w2 ⟨rfl, he⟩
  subst w2
  simp only [BX]
  refine st_newRow row22 hU1 (Owns.nil w1) ?_
  intro g w2 hU2 hO2 hg
  refine st_call (New_spec (fl := [true]) hU2 hO2 (fun w' _ hO' => rd_row (hO'.at_ 0 rfl) rfl (by simp) rfl) 3) ?_
  intro r w3 hr
  unfold NewR at hr
  rw [if_neg (by simp)] at hr
  obtain ⟨gb, rfl, hB⟩ := hr
  have hB : Bk w _ gb (newL 3 [true]) w3 := hB
  simp (disch := omega) only [PX, NP, BX]
  refine ⟨fun h => absurd rfl h, fun _ => ?_⟩
  refine st_call (Fast_spec hB 0) ?_
  rintro _ w4 ⟨rfl, he⟩
  subst w4
  rw [show (lfAt (newL 3 [true]) 0).fast = true from rfl]
  simp only [PX, BX, Bool.not_true]
  refine st_call (Fast_spec hB 1) ?_
  rintro _ w4 ⟨rfl, he⟩
  subst w4
  rw [show (lfAt (newL 3 [true]) 1).fast = false from rfl]
  simp only [PX, BX]
  refine st_call (Need_spec hB (by intro x hx; simp [newL] at hx; obtain ⟨_, _, rfl⟩ := hx; simp) page inst) ?_
  rintro _ w5 ⟨ro, ho, rfl, hor, hB5, hho⟩
  have hU5 := hB5.upd
  have hrd := hor.rd (F := [_]) hB5.F
  obtain ⟨A, c, rfl⟩ := hrd.len
  have liv : (std Try.prog).calls 9 #[] w5 fun v w' => v = .bool true ∧ Upd w w' [] := st_call (lives_spec w5) fun v w' h => ⟨h.1, hU5.trans h.2⟩
  have key : ∀ (b : Bool), (b = true ↔ 0 ≤ page ∧ page < 3 ∧ 1 ≤ inst ∧ inst ≤ 8) → ((decide ((needL (newL 3 [true]) page inst).2.2 = 0) == b) = true) ∧ ((decide ((needL (newL 3 [true]) page inst).2.2 = 1) == !b) = true) ∧ ((decide (((needL (newL 3 [true]) page inst).2.1.length : Int) = 1) == b) = true) := by
    intro b hb
    by_cases hr : 0 ≤ page ∧ page < 3 ∧ 1 ≤ inst ∧ inst ≤ 8
    · rw [hb.2 hr, need_new hr.1 hr.2.1 hr.2.2.1 hr.2.2.2]
      simp
    · have hbf : b = false := by cases b; rfl; exact absurd (hb.1 rfl) hr
      have hn : needL (newL 3 [true]) page inst = (newL 3 [true], [], 1) := by
        unfold needL; rw [if_neg]; rw [newL_len]; exact hr
      rw [hbf, hn]
      simp
  have k3 : ¬ (0 ≤ page ∧ page < 3 ∧ 1 ≤ inst ∧ inst ≤ 8) → flotillalaw20_OwnNils_k3 (std Try.prog) (.slice A (needL (newL 3 [true]) page inst).2.1.length c) (.int .i64 (needL (newL 3 [true]) page inst).2.2) w5 fun v w' => v = .bool true ∧ Upd w w' [] := by
    intro hr
    obtain ⟨q1, q2, q3⟩ := key false (Iff.intro (fun h => absurd h (by simp)) (fun h => absurd h hr))
    unfold flotillalaw20_OwnNils_k3
    simp only [PX]
    exact st_true q1 (st_true q2 (st_true q3 liv))
  simp only [PX, BX]
  refine ⟨fun h1 => ⟨fun h2 => ⟨fun h3 => ?_, fun h => k3 (by omega)⟩, fun h => k3 (by omega)⟩, fun h => k3 (by omega)⟩
  obtain ⟨q1, q2, q3⟩ := key (decide (inst ≤ 8)) ⟨fun h => ⟨h1, h2, h3, of_decide_eq_true h⟩, fun h => decide_eq_true h.2.2.2⟩
  exact st_true q1 (st_true q2 (st_true q3 liv))
end Go.Proofs.Ytilfkccahlkcaaa
