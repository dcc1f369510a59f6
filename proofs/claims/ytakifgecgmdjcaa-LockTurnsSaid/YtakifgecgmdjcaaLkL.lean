/- Locks: gone, the plain part. -/
import Derived.Test.YtakifgecgmdjcaaLkK
namespace Go.Proofs.Ytakifgecgmdjcaa
open Go Xf Go.RowKit
set_option linter.unusedVariables false
set_option linter.unusedSimpArgs false
set_option maxRecDepth 100000

def leftB (n : Nm) (txn : Int) : Bool := decide ((outN n.turns txn).length + (outN n.row txn).length < n.turns.length + n.row.length)
/-- one name, when somebody goes -/
def goneS (T : Tb) (s : List UInt8) (q : Nat × Nm) (txn : Int) (all : Bool) : Tb × List Gr :=
  if (aGet q.2.held txn).isSome && all then passT (putN T s (q.1, { leaveN q.2 txn with held := aDel q.2.held txn })) s (q.1, { leaveN q.2 txn with held := aDel q.2.held txn })
  else if leftB q.2 txn then passT (putN T s (q.1, leaveN q.2 txn)) s (q.1, leaveN q.2 txn)
  else (putN T s (q.1, leaveN q.2 txn), [])
def goneL (txn : Int) (all : Bool) : List (List UInt8) → Tb → Tb × List Gr
  | [], T => (T, [])
  | s :: l, T => match aGet T.names s with
    | none => goneL txn all l T
    | some q => let r := goneS T s q txn all; let r2 := goneL txn all l r.1; (r2.1, r.2 ++ r2.2)
def goneT (T : Tb) (txn : Int) (all : Bool) : Tb × List Gr := goneL txn all (sortS (T.names.map (·.1))) ⟨T.names, aDel T.waits txn⟩
def okN (n : Nm) (B : Nat) : Prop := n.turns.length ≤ B ∧ n.row.length ≤ B ∧ Keys1 n.held
structure okT (T : Tb) (B : Nat) : Prop where
  keys : Keys1 T.names
  wkeys : Keys1 T.waits
  len : T.names.length ≤ B
  short : ∀ p ∈ T.names, p.1.length ≤ 16
  nm : ∀ s q, aGet T.names s = some q → okN q.2 B
theorem okN.leave {n : Nm} {B : Nat} (h : okN n B) (txn : Int) : okN (leaveN n txn) B := ⟨Nat.le_trans (outN_le _ _) h.1, Nat.le_trans (outN_le _ _) h.2.1, h.2.2⟩
theorem okN.set {n : Nm} {B : Nat} (h : okN n B) (k v : Int) : okN { n with held := aSet n.held k v } B := ⟨h.1, h.2.1, h.2.2.set⟩
theorem okN.del {n : Nm} {B : Nat} (h : okN n B) (k : Int) : okN { n with held := aDel n.held k } B := ⟨h.1, h.2.1, h.2.2.del⟩
theorem passN_ok {B : Nat} : ∀ (k : Nat) (n : Nm) (ws : List (Int × Wt)), okN n B → Keys1 ws → okN (passN k n ws).1 B ∧ Keys1 (passN k n ws).2.1 ∧ (passN k n ws).2.2.length ≤ k
  | 0, n, ws, hn, hw => ⟨hn, hw, Nat.le_refl _⟩
  | k + 1, n, ws, hn, hw => by
    unfold passN
    split
    · exact ⟨hn, hw, Nat.zero_le _⟩
    · split
      · obtain ⟨h1, h2, h3⟩ := passN_ok (B := B) k { leaveN n (firstN n) with held := aSet n.held (firstN n) (wouldN n (firstN n) ((aGet ws (firstN n)).getD ⟨[], 0⟩).mode) } (aDel ws (firstN n)) ((hn.leave _).set _ _) hw.del
        exact ⟨h1, h2, Nat.succ_le_succ h3⟩
      · exact ⟨hn, hw, Nat.zero_le _⟩
theorem mem_names {T : Tb} {p : List UInt8 × (Nat × Nm)} (hk : Keys1 T.names) (hp : p ∈ T.names) : aGet T.names p.1 = some p.2 := aGet_of_mem hk hp
theorem aGet_key {κ ν : Type} [DecidableEq κ] {l : List (κ × ν)} {k : κ} {v : ν} (h : aGet l k = some v) : k ∈ l.map (·.1) := aGet_keys.1 (by rw [h]; rfl)
/-- a name that is there, laid anew -/
theorem okT.put {T : Tb} {B : Nat} {s : List UInt8} {q0 q : Nat × Nm} (h : okT T B) (h0 : aGet T.names s = some q0) (hq : okN q.2 B) : okT (putN T s q) B := by
  have hsh : ∀ x ∈ T.names.map (·.1), x.length ≤ 16 := fun x hx => by obtain ⟨p, hp, rfl⟩ := List.mem_map.1 hx; exact h.short p hp
  refine ⟨h.keys.set, h.wkeys, ?_, fun p hp => ?_, fun s' q' h' => ?_⟩
  · show (aSet T.names s q).length ≤ B
    rw [aSet_length, h0]; exact h.len
  · rcases aSet_keys.1 (List.mem_map_of_mem (f := (·.1)) hp) with he | he
    · rw [he]; exact hsh _ (aGet_key h0)
    · exact hsh _ he
  · rw [putN, aGet_aSet] at h'
    split at h'
    · injection h' with h'; subst h'; exact hq
    · exact h.nm s' q' h'
theorem passT_ok {T : Tb} {B : Nat} {s : List UInt8} {q : Nat × Nm} (h : okT T B) (h0 : aGet T.names s = some q) : okT (passT T s q).1 B ∧ (passT T s q).2.length ≤ 2 * B ∧ ∀ s', s' ≠ s → aGet (passT T s q).1.names s' = aGet T.names s' := by
  have hq := h.nm s q h0
  obtain ⟨h1, h2, h3⟩ := passN_ok (q.2.turns.length + q.2.row.length) q.2 T.waits hq h.wkeys
  unfold passT
  have hlen := hq.1
  have hlen2 := hq.2.1
  refine ⟨?_, by show (passN _ _ _).2.2.length ≤ 2 * B; omega, fun s' hs => ?_⟩
  · by_cases hz : (passN (q.2.turns.length + q.2.row.length) q.2 T.waits).1.held.length = 0
    · simp only [hz, if_true]
      refine ⟨h.keys.del, h2, Nat.le_trans (aDel_length _ _) h.len, fun p hp => ?_, fun s' q' h' => ?_⟩
      · have hm := ((aDel_keys h.keys).1 (List.mem_map_of_mem (f := (·.1)) hp)).2
        obtain ⟨p', hp', he⟩ := List.mem_map.1 hm
        rw [← he]; exact h.short p' hp'
      · rw [aGet_aDel h.keys] at h'
        split at h'
        · cases h'
        · exact h.nm s' q' h'
    · simp only [hz, if_false]
      have := h.put h0 (q := (q.1, (passN (q.2.turns.length + q.2.row.length) q.2 T.waits).1)) h1
      exact ⟨this.keys, h2, this.len, this.short, this.nm⟩
  · by_cases hz : (passN (q.2.turns.length + q.2.row.length) q.2 T.waits).1.held.length = 0
    · simp only [hz, if_true]
      rw [aGet_aDel h.keys, if_neg hs]
    · simp only [hz, if_false]
      rw [aGet_aSet, if_neg hs]
theorem get_putN_ne (T : Tb) {s s' : List UInt8} (q : Nat × Nm) (h : s' ≠ s) : aGet (putN T s q).names s' = aGet T.names s' := by rw [putN, aGet_aSet, if_neg h]
theorem goneS_ok {T : Tb} {B : Nat} {s : List UInt8} {q : Nat × Nm} (txn : Int) (all : Bool) (h : okT T B) (h0 : aGet T.names s = some q) : okT (goneS T s q txn all).1 B ∧ (goneS T s q txn all).2.length ≤ 2 * B ∧ ∀ s', s' ≠ s → aGet (goneS T s q txn all).1.names s' = aGet T.names s' := by
  have hq := h.nm s q h0
  unfold goneS
  split
  · obtain ⟨h1, h2, h3⟩ := passT_ok (h.put (q := (q.1, { leaveN q.2 txn with held := aDel q.2.held txn })) h0 (okN.del (n := leaveN q.2 txn) (hq.leave txn) txn)) (get_putN _ _ _)
    exact ⟨h1, h2, fun s' hs => by rw [h3 s' hs, get_putN_ne _ _ hs]⟩
  · split
    · obtain ⟨h1, h2, h3⟩ := passT_ok (h.put (q := (q.1, leaveN q.2 txn)) h0 (hq.leave txn)) (get_putN _ _ _)
      exact ⟨h1, h2, fun s' hs => by rw [h3 s' hs, get_putN_ne _ _ hs]⟩
    · exact ⟨h.put (q := (q.1, leaveN q.2 txn)) h0 (hq.leave txn), Nat.zero_le _, fun s' hs => get_putN_ne _ _ hs⟩
theorem goneL_ok {B : Nat} (txn : Int) (all : Bool) : ∀ (l : List (List UInt8)) (T : Tb), okT T B → okT (goneL txn all l T).1 B
  | [], T, h => h
  | s :: l, T, h => by
    unfold goneL
    split
    · exact goneL_ok txn all l T h
    · rename_i q h0
      exact goneL_ok txn all l _ (goneS_ok txn all h h0).1
theorem goneT_ok {T : Tb} {B : Nat} (txn : Int) (all : Bool) (h : okT T B) : okT (goneT T txn all).1 B := goneL_ok txn all _ _ ⟨h.keys, h.wkeys.del, h.len, h.short, h.nm⟩
theorem okT.mono {T : Tb} {B C : Nat} (h : okT T B) (hc : B ≤ C) : okT T C := ⟨h.keys, h.wkeys, Nat.le_trans h.len hc, h.short, fun s q hq => ⟨Nat.le_trans (h.nm s q hq).1 hc, Nat.le_trans (h.nm s q hq).2.1 hc, (h.nm s q hq).2.2⟩⟩
theorem okT.empty (B : Nat) : okT ⟨[], []⟩ B := ⟨List.nodup_nil, List.nodup_nil, Nat.zero_le _, fun p hp => (by cases hp), fun s q h => (by cases h)⟩
theorem putN_ok' {T : Tb} {B : Nat} {s : List UInt8} {q : Nat × Nm} (h : okT T B) (hs : s.length ≤ 16) (hq : okN q.2 (B + 1)) : okT (putN T s q) (B + 1) := by
  refine ⟨h.keys.set, h.wkeys, ?_, fun p hp => ?_, fun s' q' h' => ?_⟩
  · show (aSet T.names s q).length ≤ B + 1
    rw [aSet_length]; have := h.len; split <;> omega
  · rcases aSet_keys.1 (List.mem_map_of_mem (f := (·.1)) hp) with he | he
    · rw [he]; exact hs
    · obtain ⟨p', hp', he'⟩ := List.mem_map.1 he
      rw [← he']; exact h.short p' hp'
  · rw [putN, aGet_aSet] at h'
    split at h'
    · injection h' with h'; subst h'; exact hq
    · exact (h.mono (Nat.le_succ B)).nm s' q' h'
theorem askT_ok {T : Tb} {B : Nat} (new : Nat) (txn : Int) (v : Wt) (h : okT T B) : okT (askT T new txn v).1 (B + 1) := by
  unfold askT
  split
  · rename_i hok
    split
    · exact h.mono (Nat.le_succ B)
    · have hq : okN ((aGet T.names v.name).getD (new, noNm)).2 B := by
        cases hg : aGet T.names v.name with
        | none => exact ⟨Nat.zero_le _, Nat.zero_le _, List.nodup_nil⟩
        | some q => exact h.nm _ _ hg
      generalize (aGet T.names v.name).getD (new, noNm) = q at hq
      have hq1 : okN q.2 (B + 1) := ⟨Nat.le_succ_of_le hq.1, Nat.le_succ_of_le hq.2.1, hq.2.2⟩
      show okT (askAt T q txn v).1 (B + 1)
      unfold askAt
      split
      · exact putN_ok' h hok.2.2.1 hq1
      · split
        · exact putN_ok' h hok.2.2.1 (hq1.set _ _)
        · have hqq : okN (queueN q.2 txn) (B + 1) := by
            unfold queueN
            split
            · exact ⟨by simp only [List.length_append, List.length_singleton]; have := hq.1; omega, hq1.2.1, hq.2.2⟩
            · exact ⟨hq1.1, by simp only [List.length_append, List.length_singleton]; have := hq.2.1; omega, hq.2.2⟩
          have := putN_ok' (q := (q.1, queueN q.2 txn)) h hok.2.2.1 hqq
          exact ⟨this.keys, h.wkeys.set, this.len, this.short, this.nm⟩
  · exact h.mono (Nat.le_succ B)
end Go.Proofs.Ytakifgecgmdjcaa
