/- Locks: what one has stays. -/
import Derived.Test.YtakifgecgmdjcaaLkP
namespace Go.Proofs.Ytakifgecgmdjcaa
open Go Xf Go.RowKit
set_option linter.unusedVariables false
set_option linter.unusedSimpArgs false
set_option maxRecDepth 100000

def LeM (a b : Option Int) : Prop := ∀ m, a = some m → ∃ m', b = some m' ∧ cov (sureN m') (sureN m) = true
theorem cov_refl {i : Nat} (h : i < 6) : cov i i = true := all1 (p := fun i => cov i i) (by decide +kernel) h
theorem cov_joi {i j : Nat} (hi : i < 6) (hj : j < 6) : cov (joi i j) i = true := all2 (p := fun i j => cov (joi i j) i) (by decide +kernel) hi hj
theorem cov_trans {i j k : Nat} (hi : i < 6) (hj : j < 6) (hk : k < 6) (h1 : cov i j = true) (h2 : cov j k = true) : cov i k = true := by
  have := all3 (p := fun i j k => !cov i j || !cov j k || cov i k) (by decide +kernel) hi hj hk
  rw [h1, h2] at this
  simpa using this
theorem sureN_small {k : Nat} (h : k < 6) : sureN (k : Int) = k := by unfold sureN; rw [if_pos (by omega)]; omega
theorem LeM.refl (a : Option Int) : LeM a a := fun m h => ⟨m, h, cov_refl (sureN_lt m)⟩
theorem LeM.trans {a b c : Option Int} (h1 : LeM a b) (h2 : LeM b c) : LeM a c := fun m h => by
  obtain ⟨m1, e1, c1⟩ := h1 m h
  obtain ⟨m2, e2, c2⟩ := h2 m1 e1
  exact ⟨m2, e2, cov_trans (sureN_lt _) (sureN_lt _) (sureN_lt _) c2 c1⟩
theorem LeM.none (b : Option Int) : LeM none b := fun m h => by cases h
theorem LeM.would {n : Nm} {x m : Int} : LeM (aGet n.held x) (some (wouldN n x m)) := fun m0 h => by
  refine ⟨_, rfl, ?_⟩
  unfold wouldN
  rw [h, Option.getD_some, sureN_small (joi_lt (sureN_lt _) (sureN_lt _))]
  exact cov_joi (sureN_lt _) (sureN_lt _)
theorem LeM.set {n : Nm} {k m : Int} (x : Int) : LeM (aGet n.held x) (aGet (aSet n.held k (wouldN n k m)) x) := by
  rw [aGet_aSet]
  split
  · rename_i h; subst h; exact LeM.would
  · exact LeM.refl _
theorem passN_le (x : Int) : ∀ (k : Nat) (n : Nm) (ws : List (Int × Wt)), LeM (aGet n.held x) (aGet (passN k n ws).1.held x)
  | 0, n, ws => LeM.refl _
  | k + 1, n, ws => by
    unfold passN
    split
    · exact LeM.refl _
    · split
      · exact (LeM.set x).trans (passN_le x k { leaveN n (firstN n) with held := aSet n.held (firstN n) (wouldN n (firstN n) ((aGet ws (firstN n)).getD ⟨[], 0⟩).mode) } (aDel ws (firstN n)))
      · exact LeM.refl _
theorem hasT_put (T : Tb) (s s' : List UInt8) (q : Nat × Nm) (x : Int) : hasT (putN T s q) x s' = if s' = s then aGet q.2.held x else hasT T x s' := by
  unfold hasT putN
  rw [aGet_aSet]
  split <;> rfl
theorem passT_le {T : Tb} {s : List UInt8} {q : Nat × Nm} (hk : Keys1 T.names) (hq : aGet T.names s = some q) (x : Int) (s' : List UInt8) : LeM (hasT T x s') (hasT (passT T s q).1 x s') := by
  have h1 := passN_le x (q.2.turns.length + q.2.row.length) q.2 T.waits
  have hT : hasT T x s = aGet q.2.held x := by unfold hasT; rw [hq]; rfl
  unfold passT
  generalize passN (q.2.turns.length + q.2.row.length) q.2 T.waits = r at h1
  by_cases hz : r.1.held.length = 0
  · simp only [hz, if_true]
    have hnil : r.1.held = [] := List.eq_nil_of_length_eq_zero hz
    unfold hasT at hT ⊢
    rw [aGet_aDel hk]
    by_cases hs : s' = s
    · subst hs
      rw [if_pos rfl, hT]
      rw [hnil, aGet_nil] at h1
      exact h1
    · rw [if_neg hs]; exact LeM.refl _
  · simp only [hz, if_false]
    have := hasT_put T s s' (q.1, r.1) x
    unfold putN at this
    have e : hasT ⟨aSet T.names s (q.1, r.1), r.2.1⟩ x s' = hasT ⟨aSet T.names s (q.1, r.1), T.waits⟩ x s' := rfl
    rw [e, this]
    split
    · rename_i hs; subst hs; rw [hT]; exact h1
    · exact LeM.refl _
theorem goneS_le {T : Tb} {s : List UInt8} {q : Nat × Nm} (hk : Keys1 T.names) (hq : aGet T.names s = some q) (txn : Int) (all : Bool) (x : Int) (hx : all = true → x ≠ txn) (s' : List UInt8) : LeM (hasT T x s') (hasT (goneS T s q txn all).1 x s') := by
  have hT : hasT T x s = aGet q.2.held x := by unfold hasT; rw [hq]; rfl
  have hput : ∀ n : Nm, aGet n.held x = aGet q.2.held x → LeM (hasT T x s') (hasT (putN T s (q.1, n)) x s') := fun n hn => by
    rw [hasT_put]
    split
    · rename_i hs; subst hs; rw [hT, ← hn]; exact LeM.refl _
    · exact LeM.refl _
  have dl : ∀ (l : List (Int × Int)), x ≠ txn → aGet (aDel l txn) x = aGet l x := fun l hne => by
    induction l with
    | nil => rfl
    | cons p l ih =>
      rw [aDel_cons, aGet_cons]
      split
      · rename_i h; rw [if_neg (by rw [← h]; exact hne)]
      · rw [aGet_cons, ih]
  unfold goneS
  split
  · rename_i hc
    simp only [Bool.and_eq_true] at hc
    refine (hput _ (dl _ (hx hc.2))).trans (passT_le hk.set (get_putN _ _ _) x s')
  · split
    · exact (hput (leaveN q.2 txn) rfl).trans (passT_le hk.set (get_putN _ _ _) x s')
    · exact hput (leaveN q.2 txn) rfl
theorem goneL_le {B : Nat} (txn : Int) (all : Bool) (x : Int) (hx : all = true → x ≠ txn) (s' : List UInt8) : ∀ (l : List (List UInt8)) (T : Tb), okT T B → LeM (hasT T x s') (hasT (goneL txn all l T).1 x s')
  | [], T, h => LeM.refl _
  | s :: l, T, h => by
    unfold goneL
    split
    · exact goneL_le txn all x hx s' l T h
    · rename_i q hq
      exact (goneS_le h.keys hq txn all x hx s').trans (goneL_le txn all x hx s' l _ (goneS_ok txn all h hq).1)
theorem goneT_le {T : Tb} {B : Nat} (h : okT T B) (txn : Int) (all : Bool) (x : Int) (hx : all = true → x ≠ txn) (s' : List UInt8) : LeM (hasT T x s') (hasT (goneT T txn all).1 x s') :=
  goneL_le txn all x hx s' _ ⟨T.names, aDel T.waits txn⟩ ⟨h.keys, h.wkeys.del, h.len, h.short, h.nm⟩
theorem askT_le (T : Tb) (new : Nat) (txn : Int) (v : Wt) (x : Int) (s' : List UInt8) : LeM (hasT T x s') (hasT (askT T new txn v).1 x s') := by
  unfold askT
  split
  · split
    · exact LeM.refl _
    · have hq : LeM (hasT T x v.name) (aGet ((aGet T.names v.name).getD (new, noNm)).2.held x) := by
        unfold hasT
        cases aGet T.names v.name with
        | none => exact LeM.none _
        | some q => exact LeM.refl _
      generalize (aGet T.names v.name).getD (new, noNm) = q at hq
      show LeM _ (hasT (askAt T q txn v).1 x s')
      have hput : ∀ n : Nm, LeM (aGet q.2.held x) (aGet n.held x) → LeM (hasT T x s') (hasT (putN T v.name (q.1, n)) x s') := fun n hn => by
        rw [hasT_put]
        split
        · rename_i hs; subst hs; exact hq.trans hn
        · exact LeM.refl _
      unfold askAt
      split
      · exact hput q.2 (LeM.refl _)
      · split
        · exact hput (giveN q.2 txn v.mode) (LeM.set x)
        · have hqu : (queueN q.2 txn).held = q.2.held := by unfold queueN; split <;> rfl
          exact hput (queueN q.2 txn) (by rw [hqu]; exact LeM.refl _)
  · exact LeM.refl _
theorem stepT_le {T : Tb} {B : Nat} (h : okT T B) (new : Nat) (o : LOp) (x : Int) (hx : ¬ (o.kind = 1 ∧ o.txn = x)) (s' : List UInt8) : LeM (hasT T x s') (hasT (stepT T new o) x s') := by
  unfold stepT
  split
  · exact askT_le _ _ _ _ _ _
  · split
    · rename_i h1 h2
      exact goneT_le h _ _ _ (fun _ he => hx ⟨h2, he.symm⟩) _
    · split
      · exact goneT_le h _ _ _ (fun hh => by cases hh) _
      · exact LeM.refl _
theorem mem_heldT {T : Tb} {x : Int} {p : He} : p ∈ heldT T x ↔ hasT T x p.1 = some p.2 := by
  unfold heldT heldL
  rw [List.mem_filterMap]
  constructor
  · rintro ⟨s, hs, he⟩
    cases hh : hasT T x s with
    | none => rw [hh] at he; cases he
    | some m => rw [hh] at he; simp at he; subst he; exact hh
  · intro hh
    refine ⟨p.1, ?_, by rw [hh]; rfl⟩
    rw [(sortS_perm _).mem_iff]
    cases hg : aGet T.names p.1 with
    | none => unfold hasT at hh; rw [hg] at hh; cases hh
    | some q => exact aGet_key hg
theorem heldT_len {T : Tb} {B : Nat} (h : okT T B) (x : Int) : (heldT T x).length ≤ B := by
  have h1 := List.length_filterMap_le (fun s => (hasT T x s).map fun m => (s, m)) (sortS (T.names.map (·.1)))
  rw [(sortS_perm _).length_eq, List.length_map] at h1
  exact Nat.le_trans h1 h.len
/-- what was there is there -/
theorem kept_of_le {T T' : Tb} {x : Int} (h : ∀ s, LeM (hasT T x s) (hasT T' x s)) {p : He} (hp : p ∈ heldT T x) : ∃ p' ∈ heldT T' x, p'.1 = p.1 ∧ cov (sureN p'.2) (sureN p.2) = true := by
  obtain ⟨m', h1, h2⟩ := h p.1 p.2 (mem_heldT.1 hp)
  exact ⟨(p.1, m'), mem_heldT.2 h1, rfl, h2⟩
end Go.Proofs.Ytakifgecgmdjcaa
