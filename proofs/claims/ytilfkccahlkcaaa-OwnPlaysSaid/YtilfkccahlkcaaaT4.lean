/- The plain law of OwnEnds. -/
import Derived.Test.YtilfkccahlkcaaaS14
namespace Go.Proofs.Ytilfkccahlkcaaa
open Go Xf Go.RowKit
set_option linter.unusedVariables false
set_option linter.unusedSimpArgs false
set_option maxRecDepth 100000

def Covers (o : Od) (p : Nat) (x : Lf) : Prop := o.kind = 2 ∧ o.page = (p : Int) ∧ o.src = x.owner
/-- who is called: a call of it stands among the orders, from place i on -/
def Cov (i : Nat) (xs : List Lf) (calls : List Od) : Prop := ∀ p : Nat, p < xs.length → (lfAt xs (p : Int)).called = true → ∃ j o, i ≤ j ∧ calls[j]? = some o ∧ Covers o p (lfAt xs (p : Int))
def WFo (calls : List Od) : Prop := ∀ o ∈ calls, o.kind = 2 → 1 ≤ o.src ∧ o.src ≤ 8
theorem WFo.append {a b : List Od} (ha : WFo a) (hb : WFo b) : WFo (a ++ b) := fun o ho => (List.mem_append.1 ho).elim (ha o) (hb o)
theorem serve_cov (p : Nat) {x : Lf} (h : PInv x) : WFo (serveL (p : Int) x).2 ∧ ((serveL (p : Int) x).1.called = true → (∃ o ∈ (serveL (p : Int) x).2, Covers o p (serveL (p : Int) x).1) ∨ (x.called = true ∧ (serveL (p : Int) x).1.owner = x.owner)) := by
  rcases serve_cases (p : Int) h with ⟨a, h1, h2, h3, h4⟩ | ⟨a, b, r, h1, h2, h3, h4⟩ | ⟨a, r, h1, h2, h3, h4⟩ | ⟨h4, h5, h6⟩
  · rw [h4]
    exact ⟨fun o ho hk => by rw [List.mem_singleton] at ho; subst ho; simp at hk, fun hc => by simp at hc⟩
  · have ha := h.wb a (by rw [h3]; exact .head _)
    rw [h4]
    refine ⟨fun o ho hk => ?_, fun _ => .inl ⟨_, .tail _ (.head _), rfl, rfl, rfl⟩⟩
    rcases List.mem_cons.1 ho with rfl | ho
    · simp at hk
    · rw [List.mem_singleton] at ho; subst ho; exact ha
  · rw [h4]
    refine ⟨fun o ho hk => ?_, fun _ => .inl ⟨_, .head _, rfl, rfl, rfl⟩⟩
    rw [List.mem_singleton] at ho; subst ho
    exact h.ob.resolve_left h1
  · rw [h4]
    exact ⟨fun o ho => (by cases ho), fun hc => .inr ⟨hc, rfl⟩⟩
theorem cov_set {i : Nat} {xs : List Lf} {calls os : List Od} (h : Cov i xs calls) (hi : i ≤ calls.length) {p : Nat} (hp : p < xs.length) {x' : Lf}
    (hx : x'.called = true → (∃ o ∈ os, Covers o p x') ∨ ((lfAt xs (p : Int)).called = true ∧ x'.owner = (lfAt xs (p : Int)).owner)) : Cov i (xs.set p x') (calls ++ os) := by
  intro q hq hc
  rw [List.length_set] at hq
  rw [lfAt_set hp] at hc ⊢
  have old : (lfAt xs (q : Int)).called = true → ∃ j o, i ≤ j ∧ (calls ++ os)[j]? = some o ∧ Covers o q (lfAt xs (q : Int)) := fun hc => by
    obtain ⟨j, o, h1, h2, h3⟩ := h q hq hc
    exact ⟨j, o, h1, by rw [List.getElem?_append_left (List.getElem?_eq_some_iff.1 h2).1]; exact h2, h3⟩
  by_cases he : p = q
  · subst he
    rw [if_pos rfl] at hc ⊢
    rcases hx hc with ⟨o, ho, h3⟩ | ⟨h1, h2⟩
    · obtain ⟨k, hk⟩ := List.getElem?_of_mem ho
      exact ⟨calls.length + k, o, by omega, by rw [List.getElem?_append_right (by omega), Nat.add_sub_cancel_left]; exact hk, h3⟩
    · obtain ⟨j, o, h4, h5, h6, h7, h8⟩ := old h1
      exact ⟨j, o, h4, h5, h6, h7, by rw [h2]; exact h8⟩
  · rw [if_neg he] at hc ⊢
    exact old hc
theorem cov_same {i : Nat} {xs : List Lf} {calls : List Od} (h : Cov i xs calls) : Cov i xs (calls ++ []) := by rw [List.append_nil]; exact h
theorem need_cov {xs : List Lf} (hI : Inv xs) {calls : List Od} (h : Cov 0 xs calls) (page inst : Int) : Cov 0 (needL xs page inst).1 (calls ++ (needL xs page inst).2.1) ∧ WFo (needL xs page inst).2.1 := by
  unfold needL
  split
  · rename_i hc
    split
    · exact ⟨cov_same h, fun o ho => by cases ho⟩
    · rename_i hw
      obtain ⟨i, rfl⟩ : ∃ i : Nat, page = i := ⟨page.toNat, by omega⟩
      have hi : i < xs.length := by omega
      have hx := hI.at_ (i : Int)
      have hP : PInv { lfAt xs (i : Int) with waits := (lfAt xs (i : Int)).waits ++ [inst] } := by
        have h1 : (lfAt xs (i : Int)).owner ≠ inst := fun h => hw (.inl h)
        have h2 : inst ∉ (lfAt xs (i : Int)).waits := fun h => hw (.inr h)
        refine ⟨?_, ?_, hx.ob, ?_, hx.lo, hx.ca⟩
        · exact List.nodup_append.2 ⟨hx.nd, by simp, fun a ha b hb => by rw [List.mem_singleton] at hb; subst hb; intro he; subst he; exact h2 ha⟩
        · intro k hk
          rcases List.mem_append.1 hk with hk | hk
          · exact hx.wb k hk
          · rw [List.mem_singleton] at hk; omega
        · intro hk
          rcases List.mem_append.1 hk with hk | hk
          · exact hx.ow hk
          · exact h1 (List.mem_singleton.1 hk)
      rw [Int.toNat_natCast]
      have := serve_cov i hP
      exact ⟨cov_set h (Nat.zero_le _) hi this.2, this.1⟩
  · exact ⟨cov_same h, fun o ho => by cases ho⟩
theorem back_cov {xs : List Lf} (hI : Inv xs) {i : Nat} {calls : List Od} (h : Cov i xs calls) (hi : i ≤ calls.length) (page inst : Int) : Cov i (backL xs page inst).1 (calls ++ (backL xs page inst).2.1) ∧ WFo (backL xs page inst).2.1 := by
  unfold backL
  split
  · rename_i hc
    split
    · rename_i hw
      obtain ⟨k, rfl⟩ : ∃ i : Nat, page = i := ⟨page.toNat, by omega⟩
      have hk : k < xs.length := by omega
      have hx := hI.at_ (k : Int)
      have hP : PInv { lfAt xs (k : Int) with owner := 0, called := false } := by
        refine ⟨hx.nd, hx.wb, .inl rfl, fun hk => ?_, fun _ => rfl, fun _ => rfl⟩
        have := hx.wb _ hk
        simp only at this
        omega
      rw [Int.toNat_natCast]
      have := serve_cov k hP
      exact ⟨cov_set h hi hk fun hc => .inl ((this.2 hc).resolve_right fun h => by cases h.1), this.1⟩
    · exact ⟨cov_same h, fun o ho => by cases ho⟩
  · exact ⟨cov_same h, fun o ho => by cases ho⟩
theorem mend_cov {xs : List Lf} (hI : Inv xs) {calls : List Od} (h : Cov 0 xs calls) (page : Int) : Cov 0 (mendL xs page).1 (calls ++ (mendL xs page).2.1) ∧ WFo (mendL xs page).2.1 := by
  unfold mendL
  split
  · rename_i hc
    split
    · rename_i hl
      obtain ⟨k, rfl⟩ : ∃ i : Nat, page = i := ⟨page.toNat, by omega⟩
      have hk : k < xs.length := by omega
      have hx := hI.at_ (k : Int)
      have hP : PInv { lfAt xs (k : Int) with lost := false } := ⟨hx.nd, hx.wb, hx.ob, hx.ow, fun hh => (by cases hh), hx.ca⟩
      rw [Int.toNat_natCast]
      have := serve_cov k hP
      exact ⟨cov_set h (Nat.zero_le _) hk fun hc => (this.2 hc).imp id fun h => h, this.1⟩
    · exact ⟨cov_same h, fun o ho => by cases ho⟩
  · exact ⟨cov_same h, fun o ho => by cases ho⟩
theorem fail_cov {xs : List Lf} (hI : Inv xs) {calls : List Od} (h : Cov 0 xs calls) (inst : Int) : Cov 0 (failL xs inst).1 calls := by
  unfold failL
  split
  · intro p hp hc
    simp only [List.length_map] at hp
    rw [lfAt_map, if_pos hp] at hc ⊢
    have hne : (lfAt xs (p : Int)).owner ≠ inst := by
      intro he
      rw [failX, if_pos he] at hc
      cases hc
    rw [failX, if_neg hne] at hc ⊢
    exact h p hp hc
  · exact h
theorem play_cov {xs : List Lf} (hI : Inv xs) {calls : List Od} (h : Cov 0 xs calls) (hw : WFo calls) (o : Op3) : Cov 0 (playL xs o).1 (calls ++ (playL xs o).2) ∧ WFo (calls ++ (playL xs o).2) ∧ (playL xs o).2.length ≤ 2 := by
  unfold playL
  split
  · have := need_cov hI h o.page o.inst; exact ⟨this.1, hw.append this.2, need_count _ _ _⟩
  split
  · have := back_cov hI h (Nat.zero_le _) o.page o.inst; exact ⟨this.1, hw.append this.2, back_count _ _ _⟩
  split
  · exact ⟨cov_same (fail_cov hI h _), hw.append fun o ho => (by cases ho), by simp⟩
  split
  · have := mend_cov hI h o.page; exact ⟨this.1, hw.append this.2, mend_count _ _⟩
  · exact ⟨cov_same h, hw.append fun o ho => (by cases ho), by simp⟩

def total (xs : List Lf) : Nat := (xs.map fun x => x.waits.length).sum
theorem total_set : ∀ (xs : List Lf) (p : Nat) (hp : p < xs.length) (x' : Lf), total (xs.set p x') + xs[p].waits.length = total xs + x'.waits.length
  | a :: xs, 0, _, x' => by simp [total]; omega
  | a :: xs, p + 1, hp, x' => by
    have := total_set xs p (by simpa using hp) x'
    simp only [total, List.set_cons_succ, List.map_cons, List.sum_cons, List.getElem_cons_succ] at this ⊢
    omega
theorem total_le {xs : List Lf} : (∀ x ∈ xs, LInv x) → total xs ≤ 8 * xs.length := by
  induction xs with
  | nil => intro _; simp [total]
  | cons a xs ih =>
    intro h
    have h1 := ih fun x hx => h x (.tail _ hx)
    have h2 := (h a (.head _)).len
    simp only [total, List.map_cons, List.sum_cons, List.length_cons] at h1 ⊢
    omega
/-- one call that holds is answered -/
theorem ends_back {xs : List Lf} (hI : Inv xs) {calls : List Od} {i : Nat} {o : Od} (ho : calls[i]? = some o) (hw : WFo calls) (h : Cov i xs calls) (hk : o.kind = 2) (hs : (lfAt xs o.page).owner = o.src) :
    (backL xs o.page o.src).2.2 = 0 ∧ Inv (backL xs o.page o.src).1 ∧ (backL xs o.page o.src).1.length = xs.length ∧ lostA (backL xs o.page o.src).1 = lostA xs ∧ WFo (calls ++ (backL xs o.page o.src).2.1) ∧ Cov (i + 1) (backL xs o.page o.src).1 (calls ++ (backL xs o.page o.src).2.1) ∧
    (calls ++ (backL xs o.page o.src).2.1).length + 2 * total (backL xs o.page o.src).1 ≤ calls.length + 2 * total xs := by
  have hso := hw o (List.mem_of_getElem? ho) hk
  have hpg : 0 ≤ o.page ∧ o.page < xs.length := by
    apply Decidable.byContradiction
    intro hn
    rw [lfAt_out hn] at hs
    simp only [lf0] at hs
    omega
  have hil : i < calls.length := (List.getElem?_eq_some_iff.1 ho).1
  obtain ⟨q1, q2, q3, q4⟩ := back_law hI o.page o.src
  have hc := back_cov hI h (by omega) o.page o.src
  obtain ⟨p, hp⟩ : ∃ p : Nat, o.page = p := ⟨o.page.toNat, by omega⟩
  have hpl : p < xs.length := by omega
  obtain ⟨x0, hx0⟩ : ∃ x0 : Lf, x0 = { lfAt xs (p : Int) with owner := 0, called := false } := ⟨_, rfl⟩
  have hbe : backL xs o.page o.src = (xs.set p (serveL (p : Int) x0).1, (serveL (p : Int) x0).2, 0) := by
    unfold backL
    rw [if_pos ⟨hpg.1, hpg.2, hso.1, hso.2⟩, if_pos hs, hp, Int.toNat_natCast, hx0]
  have hx := hI.at_ (p : Int)
  have hP : PInv x0 := by
    rw [hx0]
    refine ⟨hx.nd, hx.wb, .inl rfl, fun hk => ?_, fun _ => rfl, fun _ => rfl⟩
    have := hx.wb _ hk
    simp only at this
    omega
  have w0 : x0.waits = (lfAt xs (p : Int)).waits := by rw [hx0]
  have c0 : x0.called = false := by rw [hx0]
  have o0 : x0.owner = 0 := by rw [hx0]
  have l0 : x0.lost = (lfAt xs (p : Int)).lost := by rw [hx0]
  have hsc := serve_cov p hP
  refine ⟨by rw [hbe], q1, q2, q3, hw.append hc.2, ?_, ?_⟩
  · -- those that are covered at i are this page's
    rw [hbe]
    intro q hq hcl
    simp only [List.length_set] at hq
    by_cases he : p = q
    · subst he
      simp only at hcl ⊢
      rw [lfAt_set_self hpl] at hcl ⊢
      obtain ⟨o', ho', h3⟩ := (hsc.2 hcl).resolve_right fun h => by rw [c0] at h; cases h.1
      obtain ⟨k, hk⟩ := List.getElem?_of_mem ho'
      exact ⟨calls.length + k, o', by omega, by rw [List.getElem?_append_right (by omega), Nat.add_sub_cancel_left]; exact hk, h3⟩
    · simp only at hcl ⊢
      rw [lfAt_set hpl, if_neg he] at hcl ⊢
      obtain ⟨j, o', h1, h2, h3⟩ := h q hq hcl
      have hji : j ≠ i := by
        intro hji
        subst hji
        rw [ho] at h2
        injection h2 with h2
        subst h2
        have := h3.2.1
        omega
      exact ⟨j, o', by omega, by rw [List.getElem?_append_left (List.getElem?_eq_some_iff.1 h2).1]; exact h2, h3⟩
  · rw [hbe]
    simp only [List.length_append]
    have ht := total_set xs p hpl (serveL (p : Int) x0).1
    have hxe : xs[p] = lfAt xs (p : Int) := (lfAt_nat hpl).symm
    rw [hxe] at ht
    by_cases hwt : (lfAt xs (p : Int)).waits = []
    · rw [serve_none _ hP (w0.trans hwt)] at ht ⊢
      rw [w0, hwt] at ht
      simp only [List.length_nil] at ht ⊢
      omega
    · obtain ⟨a, r, hwt⟩ := List.exists_cons_of_ne_nil hwt
      have hl : (lfAt xs (p : Int)).lost = false := by
        cases hl : (lfAt xs (p : Int)).lost
        · rfl
        · have := hx.lo hl; rw [← hp] at this; omega
      rw [serve_give (p : Int) hP o0 (l0.trans hl) (w0.trans hwt)] at ht ⊢
      have := giveO_len (p : Int) x0.fast a r
      rw [hwt] at ht
      simp only [List.length_cons] at ht ⊢
      rw [this]
      split <;> omega
theorem ends_skip {xs : List Lf} {calls : List Od} {i : Nat} {o : Od} (ho : calls[i]? = some o) (h : Cov i xs calls) (hn : ¬ (o.kind = 2 ∧ (lfAt xs o.page).owner = o.src)) : Cov (i + 1) xs calls := by
  intro p hp hc
  obtain ⟨j, o', h1, h2, h3⟩ := h p hp hc
  refine ⟨j, o', ?_, h2, h3⟩
  have hji : j ≠ i := by
    intro hji
    subst hji
    rw [ho] at h2
    injection h2 with h2
    subst h2
    exact hn ⟨h3.1, by rw [h3.2.1]; exact h3.2.2.symm⟩
  omega
theorem ends_last {xs : List Lf} (hI : Inv xs) {calls : List Od} (h : Cov calls.length xs calls) {p : Nat} (hp : p < xs.length) (hl : (lfAt xs (p : Int)).lost = false) : (lfAt xs (p : Int)).waits = [] := by
  have hx := hI.at_ (p : Int)
  apply Decidable.byContradiction
  intro hw
  by_cases ho : (lfAt xs (p : Int)).owner = 0
  · exact hw (hx.fr ho hl)
  · obtain ⟨j, o, h1, h2, _⟩ := h p hp (hx.cl ho hw)
    have := (List.getElem?_eq_some_iff.1 h2).1
    omega
end Go.Proofs.Ytilfkccahlkcaaa
