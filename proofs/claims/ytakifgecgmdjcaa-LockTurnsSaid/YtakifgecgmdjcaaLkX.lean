/- Locks: what holds of every table: Ask. -/
import Derived.Test.YtakifgecgmdjcaaLkW
namespace Go.Proofs.Ytakifgecgmdjcaa
open Go Xf Go.RowKit
set_option linter.unusedVariables false
set_option linter.unusedSimpArgs false
set_option maxRecDepth 100000

theorem Good.empty : Good ⟨[], []⟩ := ⟨fun s q h => (by cases h), fun x w h => (by cases h), fun s q h => (by cases h)⟩
theorem Good.nm' {T : Tb} (h : Good T) {s : List UInt8} {q : Nat × Nm} (hq : aGet T.names s = some q) : GoodN T.waits s q.2 := by have := h.nm s q hq; rwa [virt_nil] at this
theorem Good.conv' {T : Tb} (h : Good T) {x : Int} {w : Wt} (hx : aGet T.waits x = some w) : ∃ q, aGet T.names w.name = some q ∧ x ∈ rowsN q.2 := by have := h.conv x w hx; simpa only [virt_nil] using this
theorem Good.mk' {T : Tb} (h1 : ∀ s q, aGet T.names s = some q → GoodN T.waits s q.2) (h2 : ∀ x w, aGet T.waits x = some w → ∃ q, aGet T.names w.name = some q ∧ x ∈ rowsN q.2) (h3 : ∀ s q, aGet T.names s = some q → q.2.held ≠ []) : Good T :=
  ⟨fun s q hq => by rw [virt_nil]; exact h1 s q hq, fun x w hx => by simp only [virt_nil]; exact h2 x w hx, h3⟩
theorem aSet_ne_nil {κ ν : Type} [DecidableEq κ] (l : List (κ × ν)) (k : κ) (v : ν) : aSet l k v ≠ [] := by
  cases l with
  | nil => rw [aSet_nil]; simp
  | cons p l => rw [aSet_cons]; split <;> simp
theorem noNm_good (ws : List (Int × Wt)) (s : List UInt8) : GoodN ws s noNm := ⟨fun x m h => (by cases h), fun x y mx my h => (by cases h), fun x h => (by cases h), List.nodup_nil, fun x h => (by cases h), fun x h => (by cases h)⟩
theorem askT_good {T : Tb} (h : Good T) (new : Nat) (txn : Int) (v : Wt) (h64 : in64 txn) : Good (askT T new txn v).1 := by
  unfold askT
  split
  rotate_left
  · exact h
  rename_i hok
  obtain ⟨a1, a2, a3, a4, a5⟩ := hok
  split
  · exact h
  rename_i hnw
  have hnw : aGet T.waits txn = none := by
    cases hh : aGet T.waits txn with
    | none => rfl
    | some x => rw [hh] at hnw; simp at hnw
  show Good (askAt T ((aGet T.names v.name).getD (new, noNm)) txn v).1
  have hq : GoodN T.waits v.name ((aGet T.names v.name).getD (new, noNm)).2 := by
    cases hg : aGet T.names v.name with
    | none => exact noNm_good _ _
    | some q => exact h.nm' hg
  have hex : ((aGet T.names v.name).getD (new, noNm)).2.held ≠ [] → aGet T.names v.name = some ((aGet T.names v.name).getD (new, noNm)) := fun hne => by
    cases hg : aGet T.names v.name with
    | none => rw [hg] at hne; exact absurd rfl hne
    | some q => rfl
  have hro : ∀ q', aGet T.names v.name = some q' → ((aGet T.names v.name).getD (new, noNm)) = q' := fun q' hg => by rw [hg]; rfl
  generalize (aGet T.names v.name).getD (new, noNm) = q at hq hex hro
  have htr : ∀ y ∈ rowsN q.2, y ≠ txn := fun y hy he => by
    obtain ⟨w, e1, -⟩ := hq.rows y hy
    rw [he, hnw] at e1; cases e1
  have put : ∀ n : Nm, GoodN T.waits v.name n → n.held ≠ [] → (∀ y ∈ rowsN q.2, y ∈ rowsN n) → Good (putN T v.name (q.1, n)) := fun n hn hl hr => by
    refine Good.mk' (fun s' q' h' => ?_) (fun x w hx => ?_) fun s' q' h' => ?_
    · rw [putN, aGet_aSet] at h'
      split at h'
      · rename_i he; injection h' with h'; subst h' he; exact hn
      · exact h.nm' h'
    · obtain ⟨q', h1, h2⟩ := h.conv' hx
      by_cases he : w.name = v.name
      · rw [he] at h1
        have := hro q' h1; subst this
        exact ⟨(q.1, n), by rw [putN, aGet_aSet, if_pos he], hr x h2⟩
      · exact ⟨q', by rw [putN, aGet_aSet, if_neg he]; exact h1, h2⟩
    · rw [putN, aGet_aSet] at h'
      split at h'
      · injection h' with h'; subst h'; exact hl
      · exact h.live s' q' h'
  unfold askAt
  split
  · rename_i hc
    have hne : q.2.held ≠ [] := fun hh => by unfold covB at hc; rw [hh, aGet_nil] at hc; cases hc
    have := put q.2 hq hne fun y hy => hy
    exact this
  · rename_i hc
    have hc : covB q.2 txn v.mode = false := by simpa using hc
    split
    · rename_i hg
      unfold getsB at hg
      rw [Bool.and_eq_true] at hg
      refine put (giveN q.2 txn v.mode) ?_ (aSet_ne_nil _ _ _) fun y hy => hy
      exact hq.give (n' := giveN q.2 txn v.mode) a1 h64 a4 a5 hg.1 rfl (fun y hy => ⟨hy, htr y (List.mem_append_left _ hy)⟩) (fun y hy => ⟨hy, htr y (List.mem_append_right _ hy)⟩) hq.nodup fun y w _ hw => hw
    · rename_i hg
      have hg : getsB q.2 txn v.mode = false := by simpa using hg
      have hne : q.2.held ≠ [] := fun hh => by
        have hgo : goesB q.2 txn (wouldN q.2 txn v.mode) = true := by unfold goesB; rw [hh]; rfl
        unfold getsB at hg
        rw [hgo, hh, aGet_nil, Bool.true_and] at hg
        have hrn : ¬ (q.2.turns.length + q.2.row.length = 0) := by simpa using hg
        have : rowsN q.2 ≠ [] := fun hr => hrn (by have := congrArg List.length hr; unfold rowsN at this; rw [List.length_append] at this; exact this)
        obtain ⟨y, l, hyl⟩ := List.exists_cons_of_ne_nil this
        have hy : y ∈ rowsN q.2 := by rw [hyl]; exact List.mem_cons_self ..
        obtain ⟨w, e1, e2, -⟩ := hq.rows y hy
        obtain ⟨q', h1, h2⟩ := h.conv' e1
        rw [e2] at h1
        have := hro q' h1; subst this
        exact h.live _ _ h1 hh
      have hgt := hex hne
      have hqh : (queueN q.2 txn).held = q.2.held := by unfold queueN; split <;> rfl
      have hqr : ∀ y, y ∈ rowsN (queueN q.2 txn) ↔ y ∈ rowsN q.2 ∨ y = txn := fun y => by
        unfold queueN rowsN
        split
        · simp only [List.mem_append, List.mem_singleton]
          constructor
          · rintro ((h | h) | h)
            · exact .inl (.inl h)
            · exact .inr h
            · exact .inl (.inr h)
          · rintro ((h | h) | h)
            · exact .inl (.inl h)
            · exact .inr h
            · exact .inl (.inr h)
        · simp only [List.mem_append, List.mem_singleton, or_assoc]
      have wne : ∀ y, y ≠ txn → aGet (aSet T.waits txn v) y = aGet T.waits y := fun y hy => by rw [aGet_aSet, if_neg hy]
      have weq : aGet (aSet T.waits txn v) txn = some v := by rw [aGet_aSet, if_pos rfl]
      have hN : GoodN (aSet T.waits txn v) v.name (queueN q.2 txn) := by
        refine ⟨fun x m hx => hq.held1 x m (by rw [← hqh]; exact hx), fun x y mx my hx hy hne => hq.bes x y mx my (by rw [← hqh]; exact hx) (by rw [← hqh]; exact hy) hne, fun y hy => ?_, ?_, fun y hy => ?_, fun y hy => ?_⟩
        · rcases (hqr y).1 hy with hy | rfl
          · obtain ⟨w, e1, e2, e3, e4, e5, e6, e7⟩ := hq.rows y hy
            exact ⟨w, by rw [wne y (htr y hy)]; exact e1, e2, e3, e4, e5, e6, fun hm hhm => e7 hm (by rw [← hqh]; exact hhm)⟩
          · refine ⟨v, weq, rfl, a1, h64, a4, a5, fun hm hhm => ?_⟩
            rw [hqh] at hhm
            unfold covB at hc
            rw [hhm] at hc; exact hc
        · have hnt : txn ∉ rowsN q.2 := fun hh => htr _ hh rfl
          have hnd := hq.nodup
          unfold queueN rowsN at *
          split
          · simp only
            rw [List.nodup_append] at hnd ⊢
            simp only [List.mem_append, not_or] at hnt
            refine ⟨?_, hnd.2.1, fun a ha b hb => ?_⟩
            · rw [List.nodup_append]
              exact ⟨hnd.1, by simp, fun a ha b hb => by rw [List.mem_singleton] at hb; subst hb; exact fun he => hnt.1 (he ▸ ha)⟩
            · rcases List.mem_append.1 ha with ha | ha
              · exact hnd.2.2 a ha b hb
              · rw [List.mem_singleton] at ha; subst ha; exact fun he => hnt.2 (he ▸ hb)
          · simp only
            rw [← List.append_assoc, List.nodup_append]
            exact ⟨hnd, by simp, fun a ha b hb => by rw [List.mem_singleton] at hb; subst hb; exact fun he => hnt (he ▸ ha)⟩
        · rw [hqh]
          unfold queueN at hy
          split at hy
          · rename_i his
            rcases List.mem_append.1 hy with hy | hy
            · exact hq.turns y hy
            · rw [List.mem_singleton] at hy; subst hy; exact his
          · exact hq.turns y hy
        · rw [hqh]
          unfold queueN at hy
          split at hy
          · exact hq.row y hy
          · rename_i his
            rcases List.mem_append.1 hy with hy | hy
            · exact hq.row y hy
            · rw [List.mem_singleton] at hy; subst hy
              cases hh : aGet q.2.held y with
              | none => rfl
              | some z => rw [hh] at his; exact absurd rfl his
      refine Good.mk' (fun s' q' h' => ?_) (fun x w hx => ?_) fun s' q' h' => ?_
      · have h' : aGet (aSet T.names v.name (q.1, queueN q.2 txn)) s' = some q' := h'
        rw [aGet_aSet] at h'
        split at h'
        · rename_i he; injection h' with h'; subst h' he; exact hN
        · rename_i hne'
          have hn := h.nm' h'
          refine ⟨hn.held1, hn.bes, fun y hy => ?_, hn.nodup, hn.turns, hn.row⟩
          obtain ⟨w, e1, e2, e3⟩ := hn.rows y hy
          refine ⟨w, ?_, e2, e3⟩
          show aGet (aSet T.waits txn v) y = some w
          rw [wne y (fun he => by rw [he, hnw] at e1; cases e1)]; exact e1
      · have hx : aGet (aSet T.waits txn v) x = some w := hx
        by_cases he : x = txn
        · subst he
          rw [weq] at hx; injection hx with hx; subst hx
          exact ⟨(q.1, queueN q.2 x), by show aGet (aSet T.names _ _) _ = _; rw [aGet_aSet, if_pos rfl], (hqr x).2 (.inr rfl)⟩
        · rw [wne x he] at hx
          obtain ⟨q', h1, h2⟩ := h.conv' hx
          by_cases hs : w.name = v.name
          · rw [hs] at h1
            have := hro q' h1; subst this
            exact ⟨(q.1, queueN q.2 txn), by show aGet (aSet T.names _ _) _ = _; rw [aGet_aSet, if_pos hs], (hqr x).2 (.inl h2)⟩
          · exact ⟨q', by show aGet (aSet T.names _ _) _ = _; rw [aGet_aSet, if_neg hs]; exact h1, h2⟩
      · have h' : aGet (aSet T.names v.name (q.1, queueN q.2 txn)) s' = some q' := h'
        rw [aGet_aSet] at h'
        split at h'
        · injection h' with h'; subst h'; rw [hqh]; exact hne
        · exact h.live s' q' h'
theorem stepT_good {T : Tb} {B : Nat} (h : Good T) (hok : okT T B) (new : Nat) (o : LOp) (ho : in64 o.txn) : Good (stepT T new o) := by
  unfold stepT
  split
  · exact askT_good h new _ _ ho
  · split
    · exact goneT_good h hok _ _
    · split
      · exact goneT_good h hok _ _
      · exact h
theorem Reach.good {l : List LOp} {T : Tb} (h : Reach l T) (hl : ∀ o ∈ l, okO o) : Good T := by
  induction h with
  | nil => exact Good.empty
  | snoc new o hr ih =>
    have := ih fun o ho => hl o (List.mem_append_left _ ho)
    unfold stepS
    split
    · exact stepT_good this hr.ok new o (hl o (List.mem_append_right _ (List.mem_singleton.2 rfl))).2.1
    · exact this
end Go.Proofs.Ytakifgecgmdjcaa
