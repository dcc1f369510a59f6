/- Locks: Edges. -/
import Derived.Test.YtakifgecgmdjcaaLkAK
namespace Go.Proofs.Ytakifgecgmdjcaa
open Go Xf Go.RowKit
set_option linter.unusedVariables false
set_option linter.unusedSimpArgs false
set_option maxRecDepth 100000

theorem edLt_or {a b : Ed} (h : ¬ edLt b a) (hne : a ≠ b) : edLt a b := by
  unfold edLt at *
  have : ¬ (a.1 = b.1 ∧ a.2 = b.2) := fun hh => hne (Prod.ext hh.1 hh.2)
  omega
theorem edLt_trans {a b c : Ed} (h1 : edLt a b) (h2 : edLt b c) : edLt a c := by unfold edLt at *; omega
theorem edLt_irrefl (a : Ed) : ¬ edLt a a := by unfold edLt; omega
theorem cpt_ok {l : List Ed} (hp : l.Pairwise (fun a b => ¬ edLt b a)) : ∀ m, m ≤ l.length → (∀ e, e ∈ cpt l m ↔ e ∈ l.take m) ∧ (cpt l m).Pairwise edLt ∧ ∀ x ∈ cpt l m, x = l.getD (m - 1) (0, 0) ∨ edLt x (l.getD (m - 1) (0, 0))
  | 0, _ => ⟨fun e => by simp [cpt], List.Pairwise.nil, fun x h => by cases h⟩
  | m + 1, h => by
    obtain ⟨h1, h2, h3⟩ := cpt_ok hp m (by omega)
    have hm : m < l.length := by omega
    have hsucc : l.take (m + 1) = l.take m ++ [l.getD m (0, 0)] := by rw [List.take_succ_eq_append_getElem hm, getD_eq hm]
    unfold cpt
    by_cases hn : newB l m = true
    · rw [if_pos hn]
      have hlt : ∀ x ∈ cpt l m, edLt x (l.getD m (0, 0)) := fun x hx => by
        have hm0 : m ≠ 0 := fun he => by subst he; cases hx
        unfold newB at hn
        rw [decide_eq_false hm0, Bool.false_or] at hn
        have hne : l.getD m (0, 0) ≠ l.getD (m - 1) (0, 0) := by simpa using hn
        have hle : ¬ edLt (l.getD m (0, 0)) (l.getD (m - 1) (0, 0)) := by
          rw [getD_eq hm, getD_eq (show m - 1 < l.length by omega)]
          exact List.pairwise_iff_getElem.1 hp (m - 1) m (by omega) hm (by omega)
        have hstep := edLt_or hle (Ne.symm hne)
        rcases h3 x hx with rfl | h
        · exact hstep
        · exact edLt_trans h hstep
      refine ⟨fun e => by rw [List.mem_append, h1 e, hsucc, List.mem_append], ?_, fun x hx => ?_⟩
      · rw [List.pairwise_append]
        exact ⟨h2, by simp, fun a ha b hb => by rw [List.mem_singleton] at hb; subst hb; exact hlt a ha⟩
      · rw [Nat.add_sub_cancel]
        rcases List.mem_append.1 hx with hx | hx
        · exact .inr (hlt x hx)
        · rw [List.mem_singleton] at hx; exact .inl hx
    · rw [if_neg hn]
      have hn : newB l m = false := by simpa using hn
      unfold newB at hn
      rw [Bool.or_eq_false_iff] at hn
      have hm0 : m ≠ 0 := by simpa using hn.1
      have he : l.getD m (0, 0) = l.getD (m - 1) (0, 0) := by simpa using hn.2
      refine ⟨fun e => ?_, h2, fun x hx => ?_⟩
      · rw [h1 e, hsucc, List.mem_append, List.mem_singleton]
        refine ⟨.inl, fun h => h.elim id fun h => ?_⟩
        rw [h, he, getD_eq (show m - 1 < l.length by omega)]
        exact List.mem_take_iff_getElem.2 ⟨m - 1, by omega, rfl⟩
      · rw [Nat.add_sub_cancel, he]; exact h3 x hx
theorem Fine.edge {T : Tb} {B : Nat} (h : Fine T B) {e : Ed} (he : EdgeT T e) : okE e := by
  obtain ⟨p, hp, i, hi, hh⟩ := he
  have hg := h.good.nm' (mem_names h.ok.keys hp)
  have hrow : ∀ x ∈ rowsN p.2.2, 0 ≤ x ∧ x < 9223372036854775808 := fun x hx => by
    obtain ⟨w, -, -, h1, h2, -⟩ := hg.rows x hx
    exact ⟨by omega, h2.2⟩
  have h1 := hrow e.1 (List.mem_of_getElem? hi)
  have h2 : 0 ≤ e.2 ∧ e.2 < 9223372036854775808 := by
    rcases hh with ⟨q, hq, hqe, -⟩ | hq
    · obtain ⟨m, hm⟩ := key_get (l := p.2.2.held) (x := e.2) (by rw [← hqe]; exact List.mem_map_of_mem (f := (·.1)) hq)
      obtain ⟨h3, h4, -⟩ := hg.held1 e.2 m hm
      exact ⟨by omega, h4.2⟩
    · exact hrow e.2 (List.mem_of_mem_take hq)
  exact ⟨h1.1, h1.2, h2.1, h2.2⟩
def EdgesPost (W : World) (ks : List Nat) (F : List (Nat × Obj)) (L : List Ed) (T : Tb) (g : Nat) (u : Value) (w' : World) : Prop :=
  (∃ hl, RowH 53 2 u L.length (edsV L) hl ∧ TbAt W ks (hl ++ F) T g w' ∧ ∀ p ∈ hl, p.1 ∈ ks ∨ W.heap.size ≤ p.1) ∧ L.Pairwise edLt ∧ (∀ e, e ∈ L ↔ EdgeT T e) ∧ L.length ≤ 200000000
section
variable {W w w' : World} {ks : List Nat} {F : List (Nat × Obj)} {g : Nat} {T : Tb} {K : Value → World → Prop}
theorem cpt_le (l : List Ed) : (cpt l l.length).length ≤ l.length := cpt_len l _
theorem Edges_spec {B : Nat} (h : TbAt W ks F T g w) (hfine : Fine T B) (hB5 : B ≤ 500) :
    CallsR Try.prog 18 #[.pointer (some ⟨g, 0, none⟩)] w fun u w' => ∃ L, EdgesPost W ks F L T g u w' := by
  apply lock_Table_Edges_sound
  unfold lock_Table_Edges_x
  obtain ⟨hU, _, ⟨bn, bw, on, ow, hs, rfl, hB⟩, hO, hmine⟩ := h
  refine st_alloc (z := .slice none 0 0) ze49 hU hO ?_
  intro b w1 hU1 hO1 hb
  have hE : EdO W ks (tbL g bn bw on ow hs ++ F) [] b w1 := ⟨_, [], RowH.nil_ _ _, hO1, hU1, fun p hp => (by cases hp), hb⟩
  simp (disch := first | assumption | omega) only [PX, BX]
  rw [step_run (mk_yield _ _)]
  refine st_call (edges_spec hE hB hfine hB5) ?_
  rintro _ w2 ⟨rfl, es, hE2, hmem, hlen⟩
  obtain ⟨v, hl, hr, hO2, hU2, hm2, -⟩ := hE2
  obtain ⟨A, c, rfl⟩ := RowH.sl' hr
  refine st_load ag49 ((cell_at (hO2.at_ 0 rfl)).trans rfl) ?_
  have hP : Owns w2 (hl ++ (edB b (.slice A es.length c) :: (tbL g bn bw on ow hs ++ F))) := hO2.perm (by
    classical
    refine List.perm_iff_count.2 fun y => ?_
    simp only [List.count_cons, List.count_append]
    omega)
  refine st_call (Sort_spec hr (by omega) (fun e he => hfine.edge ((hmem e).1 he)) hP hU2 hm2) ?_
  rintro _ w3 ⟨l', h', hperm, hpair, hr3, hO3, hU3, hm3⟩
  refine st_load ag49 ((cell_at (hO3.2 (edB b (.slice A es.length c)) (by simp))).trans rfl) ?_
  have hl'len := hperm.length_eq
  refine st_call (Compact_spec hr3 (by omega) hO3 hU3 hm3) ?_
  rintro u w4 ⟨h4, hr4, hO4, hU4, hm4⟩
  obtain ⟨c1, c2, -⟩ := cpt_ok hpair l'.length (Nat.le_refl _)
  refine ⟨_, ⟨h4, hr4, ⟨hU4, tbL g bn bw on ow hs, ⟨bn, bw, on, ow, hs, rfl, hB⟩, ?_, hmine⟩, hm4⟩, c2, fun e => ?_, by have := cpt_le l'; omega⟩
  · refine (hO4.sub (List.Sublist.append_left (List.sublist_cons_self ..) _)).perm ?_
    classical
    refine List.perm_iff_count.2 fun y => ?_
    simp only [List.count_append]
    omega
  · rw [c1 e, List.take_length, hperm.mem_iff, hmem e]
end
end Go.Proofs.Ytakifgecgmdjcaa
