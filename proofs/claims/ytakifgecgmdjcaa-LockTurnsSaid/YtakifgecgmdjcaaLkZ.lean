/- Locks: how much a table holds. -/
import Derived.Test.YtakifgecgmdjcaaLkY
namespace Go.Proofs.Ytakifgecgmdjcaa
open Go Xf Go.RowKit
set_option linter.unusedVariables false
set_option linter.unusedSimpArgs false
set_option maxRecDepth 100000

def szN (n : Nm) : Nat := n.held.length + n.turns.length + n.row.length
structure okS (T : Tb) (B : Nat) : Prop where
  waits : T.waits.length ≤ B
  nm : ∀ s q, aGet T.names s = some q → szN q.2 ≤ B
theorem aSet_le {κ ν : Type} [DecidableEq κ] (k : κ) (v : ν) (l : List (κ × ν)) : (aSet l k v).length ≤ l.length + 1 := by rw [aSet_length]; split <;> omega
theorem szN_leave (n : Nm) (x : Int) : szN (leaveN n x) ≤ szN n := by
  have := outN_le n.turns x
  have := outN_le n.row x
  unfold szN leaveN; simp only; omega
theorem passN_sz : ∀ (k : Nat) (n : Nm) (ws : List (Int × Wt)), szN (passN k n ws).1 ≤ szN n ∧ (passN k n ws).2.1.length ≤ ws.length
  | 0, n, ws => ⟨Nat.le_refl _, Nat.le_refl _⟩
  | k + 1, n, ws => by
    unfold passN
    split
    · exact ⟨Nat.le_refl _, Nat.le_refl _⟩
    · rename_i hx
      split
      · obtain ⟨h1, h2⟩ := passN_sz k { leaveN n (firstN n) with held := aSet n.held (firstN n) (wouldN n (firstN n) ((aGet ws (firstN n)).getD ⟨[], 0⟩).mode) } (aDel ws (firstN n))
        have h3 := leaveN_lt hx
        have h4 := aSet_le (firstN n) (wouldN n (firstN n) ((aGet ws (firstN n)).getD ⟨[], 0⟩).mode) n.held
        have h5 := aDel_length (firstN n) ws
        refine ⟨Nat.le_trans h1 ?_, Nat.le_trans h2 h5⟩
        unfold szN leaveN; simp only; omega
      · exact ⟨Nat.le_refl _, Nat.le_refl _⟩
theorem okS.put {T : Tb} {B : Nat} {s : List UInt8} {q : Nat × Nm} (h : okS T B) (hq : szN q.2 ≤ B) : okS (putN T s q) B := ⟨h.waits, fun s' q' h' => by
  rw [putN, aGet_aSet] at h'
  split at h'
  · injection h' with h'; subst h'; exact hq
  · exact h.nm s' q' h'⟩
theorem passT_sz {T : Tb} {B C : Nat} {s : List UInt8} {q : Nat × Nm} (h : okS T B) (hok : okT T C) (hq : aGet T.names s = some q) : okS (passT T s q).1 B := by
  obtain ⟨h1, h2⟩ := passN_sz (q.2.turns.length + q.2.row.length) q.2 T.waits
  have h0 := h.nm s q hq
  have hw := h.waits
  unfold passT
  refine ⟨by show (passN _ _ _).2.1.length ≤ B; omega, fun s' q' h' => ?_⟩
  by_cases hz : (passN (q.2.turns.length + q.2.row.length) q.2 T.waits).1.held.length = 0
  · simp only [hz, if_true] at h'
    rw [aGet_aDel hok.keys] at h'
    split at h'
    · cases h'
    · exact h.nm s' q' h'
  · simp only [hz, if_false] at h'
    rw [aGet_aSet] at h'
    split at h'
    · injection h' with h'; subst h'; exact Nat.le_trans h1 h0
    · exact h.nm s' q' h'
theorem goneS_sz {T : Tb} {B C : Nat} {s : List UInt8} {q : Nat × Nm} (txn : Int) (all : Bool) (h : okS T B) (hok : okT T C) (hq : aGet T.names s = some q) : okS (goneS T s q txn all).1 B := by
  have h0 := h.nm s q hq
  have h1 := szN_leave q.2 txn
  have hokn := hok.nm s q hq
  unfold goneS
  split
  · have h2 : szN { leaveN q.2 txn with held := aDel q.2.held txn } ≤ B := by
      have := aDel_length txn q.2.held
      unfold szN leaveN at *; simp only at *; omega
    exact passT_sz (h.put (q := (q.1, { leaveN q.2 txn with held := aDel q.2.held txn })) h2) (hok.put hq (q := (q.1, { leaveN q.2 txn with held := aDel q.2.held txn })) (okN.del (n := leaveN q.2 txn) (hokn.leave txn) txn)) (get_putN _ _ _)
  · split
    · exact passT_sz (h.put (q := (q.1, leaveN q.2 txn)) (Nat.le_trans h1 h0)) (hok.put hq (q := (q.1, leaveN q.2 txn)) (hokn.leave txn)) (get_putN _ _ _)
    · exact h.put (q := (q.1, leaveN q.2 txn)) (Nat.le_trans h1 h0)
theorem goneL_sz {B C : Nat} (txn : Int) (all : Bool) : ∀ (l : List (List UInt8)) (T : Tb), okS T B → okT T C → okS (goneL txn all l T).1 B
  | [], T, h, _ => h
  | s :: l, T, h, hok => by
    unfold goneL
    split
    · exact goneL_sz txn all l T h hok
    · rename_i q h0
      exact goneL_sz txn all l _ (goneS_sz txn all h hok h0) (goneS_ok txn all hok h0).1
theorem goneT_sz {T : Tb} {B C : Nat} (txn : Int) (all : Bool) (h : okS T B) (hok : okT T C) : okS (goneT T txn all).1 B :=
  goneL_sz (C := C) txn all _ ⟨T.names, aDel T.waits txn⟩ ⟨Nat.le_trans (aDel_length _ _) h.waits, h.nm⟩ ⟨hok.keys, hok.wkeys.del, hok.len, hok.short, hok.nm⟩
theorem okS.mono {T : Tb} {B C : Nat} (h : okS T B) (hc : B ≤ C) : okS T C := ⟨Nat.le_trans h.waits hc, fun s q hq => Nat.le_trans (h.nm s q hq) hc⟩
theorem askT_sz {T : Tb} {B : Nat} (new : Nat) (txn : Int) (v : Wt) (h : okS T B) : okS (askT T new txn v).1 (B + 1) := by
  unfold askT
  split
  · split
    · exact h.mono (Nat.le_succ B)
    · have hq : szN ((aGet T.names v.name).getD (new, noNm)).2 ≤ B := by
        cases hg : aGet T.names v.name with
        | none => exact Nat.zero_le _
        | some q => exact h.nm _ _ hg
      generalize (aGet T.names v.name).getD (new, noNm) = q at hq
      show okS (askAt T q txn v).1 (B + 1)
      have hm := h.mono (Nat.le_succ B)
      unfold askAt
      split
      · exact hm.put (Nat.le_succ_of_le hq)
      · split
        · refine hm.put (q := (q.1, giveN q.2 txn v.mode)) ?_
          have := aSet_le txn (wouldN q.2 txn v.mode) q.2.held
          unfold szN giveN at *; simp only; omega
        · have h2 : szN (queueN q.2 txn) ≤ B + 1 := by
            unfold queueN szN at *
            split <;> simp only [List.length_append, List.length_singleton] <;> omega
          have h3 := hm.put (s := v.name) (q := (q.1, queueN q.2 txn)) h2
          exact ⟨Nat.le_trans (aSet_le _ _ _) (Nat.succ_le_succ h.waits), h3.nm⟩
  · exact h.mono (Nat.le_succ B)
theorem stepT_sz {T : Tb} {B C : Nat} (new : Nat) (o : LOp) (h : okS T B) (hok : okT T C) : okS (stepT T new o) (B + 1) := by
  unfold stepT
  split
  · exact askT_sz new _ _ h
  · split
    · exact (goneT_sz _ _ h hok).mono (Nat.le_succ B)
    · split
      · exact (goneT_sz _ _ h hok).mono (Nat.le_succ B)
      · exact h.mono (Nat.le_succ B)
theorem Reach.sz {l : List LOp} {T : Tb} (h : Reach l T) : okS T l.length := by
  induction h with
  | nil => exact ⟨Nat.zero_le _, fun s q h => (by cases h)⟩
  | snoc new o hr ih =>
    rw [List.length_append, List.length_singleton]
    unfold stepS
    split
    · exact stepT_sz new o ih hr.ok
    · exact ih.mono (Nat.le_succ _)
def sumH (l : List (List UInt8 × (Nat × Nm))) : Nat := (l.map fun p => p.2.2.held.length).sum
theorem sumH_le {B : Nat} : ∀ l : List (List UInt8 × (Nat × Nm)), (∀ p ∈ l, p.2.2.held.length ≤ B) → sumH l ≤ l.length * B
  | [], _ => Nat.zero_le _
  | p :: l, h => by
    have h1 := sumH_le l fun p hp => h p (List.mem_cons_of_mem _ hp)
    have h2 := h p (List.mem_cons_self ..)
    unfold sumH at *
    rw [List.map_cons, List.sum_cons, List.length_cons, Nat.succ_mul]
    omega
theorem sumH_perm {l l' : List (List UInt8 × (Nat × Nm))} (h : l.Perm l') : sumH l = sumH l' := (h.map _).sum_nat
/-- everything that a law of a table leans on -/
structure Fine (T : Tb) (B : Nat) : Prop where
  ok : okT T B
  sz : okS T B
  good : Good T
theorem Reach.fine {l : List LOp} {T : Tb} (h : Reach l T) (hl : ∀ o ∈ l, okO o) : Fine T l.length := ⟨h.ok, h.sz, h.good hl⟩
theorem Fine.mono {T : Tb} {B C : Nat} (h : Fine T B) (hc : B ≤ C) : Fine T C := ⟨h.ok.mono hc, h.sz.mono hc, h.good⟩
theorem Fine.step {T : Tb} {B : Nat} (h : Fine T B) (new : Nat) (o : LOp) (ho : in64 o.txn) : Fine (stepT T new o) (B + 1) := ⟨stepT_ok new o h.ok, stepT_sz new o h.sz h.ok, stepT_good h.good h.ok new o ho⟩
end Go.Proofs.Ytakifgecgmdjcaa
