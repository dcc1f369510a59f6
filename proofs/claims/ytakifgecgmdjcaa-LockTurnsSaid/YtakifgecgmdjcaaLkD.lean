/- Locks: a table in memory. -/
import Derived.Test.YtakifgecgmdjcaaLkS
namespace Go.Proofs.Ytakifgecgmdjcaa
open Go Xf Go.RowKit
set_option linter.unusedVariables false
set_option linter.unusedSimpArgs false
set_option maxRecDepth 100000

/-- what somebody waits for -/
structure Wt where
  name : List UInt8
  mode : Int
def wtV (w : Wt) : Value := .agg #[strV w.name, .int .i64 w.mode]
structure Tb where
  names : List (List UInt8 × (Nat × Nm))
  waits : List (Int × Wt)
def ptV (p : Nat × Nm) : Value := .pointer (some ⟨p.1, 0, none⟩)
def tbO (bn bw : Nat) : Obj := .cells #[.map (some bn), .map (some bw)] 65 (0, 0)
theorem uNames : Try.prog.underlying 61 = some (.map 9 62) := by kernel_rfl
theorem uWaits : Try.prog.underlying 63 = some (.map 3 30) := by kernel_rfl
/-- the names' blocks -/
def NmsE : List (List UInt8 × (Nat × Nm)) → List (Nat × Obj) → Prop
  | [], h => h = []
  | p :: l, h => ∃ h1 h2, h = h1 ++ h2 ∧ NmH p.2.2 p.2.1 h1 ∧ NmsE l h2
theorem NmsE.append : ∀ {A B : List (List UInt8 × (Nat × Nm))} {h : List (Nat × Obj)}, NmsE (A ++ B) h ↔ ∃ h1 h2, h = h1 ++ h2 ∧ NmsE A h1 ∧ NmsE B h2
  | [], B, h => ⟨fun hh => ⟨[], h, rfl, rfl, hh⟩, by rintro ⟨h1, h2, rfl, rfl, h4⟩; exact h4⟩
  | p :: A, B, h => by
    constructor
    · rintro ⟨h1, h2, rfl, h3, h4⟩
      obtain ⟨h5, h6, rfl, h7, h8⟩ := NmsE.append.1 h4
      exact ⟨h1 ++ h5, h6, by rw [List.append_assoc], ⟨h1, h5, rfl, h3, h7⟩, h8⟩
    · rintro ⟨h1, h2, rfl, ⟨h5, h6, rfl, h7, h8⟩, h4⟩
      exact ⟨h5, h6 ++ h2, by rw [List.append_assoc], h7, NmsE.append.2 ⟨h6, h2, rfl, h8, h4⟩⟩
def NmsH (l : List (List UInt8 × (Nat × Nm))) (h : List (Nat × Obj)) : Prop := ∃ h0, NmsE l h0 ∧ h0.Perm h
theorem NmsH.mid {A B : List (List UInt8 × (Nat × Nm))} {p : List UInt8 × (Nat × Nm)} {h : List (Nat × Obj)} : NmsH (A ++ p :: B) h ↔ ∃ hn hF, NmH p.2.2 p.2.1 hn ∧ NmsH (A ++ B) hF ∧ (hn ++ hF).Perm h := by
  constructor
  · rintro ⟨h0, h1, h2⟩
    obtain ⟨h3, h4, rfl, h5, h6, h7, rfl, h8, h9⟩ := NmsE.append.1 h1
    refine ⟨h6, h3 ++ h7, h8, ⟨_, NmsE.append.2 ⟨_, _, rfl, h5, h9⟩, List.Perm.refl _⟩, ?_⟩
    refine List.Perm.trans ?_ h2
    rw [← List.append_assoc, ← List.append_assoc]
    exact List.perm_append_comm.append_right _
  · rintro ⟨hn, hF, h1, ⟨h0, h2, h3⟩, h4⟩
    obtain ⟨h5, h6, rfl, h7, h8⟩ := NmsE.append.1 h2
    refine ⟨h5 ++ (hn ++ h6), NmsE.append.2 ⟨_, _, rfl, h7, hn, h6, rfl, h1, h8⟩, ?_⟩
    refine List.Perm.trans ?_ ((h3.append_left hn).trans h4)
    rw [← List.append_assoc, ← List.append_assoc]
    exact List.perm_append_comm.append_right _
theorem NmsH.nil_ : NmsH [] [] := ⟨[], rfl, List.Perm.refl _⟩

section
variable {κ ν : Type} [DecidableEq κ]
theorem aFind_split {l : List (κ × ν)} {k : κ} {j : Nat} {v : ν} (h : aFind l k 0 = some (j, v)) : ∃ A B, l = A ++ (k, v) :: B ∧ (∀ v', aSet l k v' = A ++ (k, v') :: B) ∧ aDel l k = A ++ B := by
  obtain ⟨-, h1⟩ := aFind_some h
  rw [Nat.sub_zero] at h1
  obtain ⟨hj, he⟩ := List.getElem?_eq_some_iff.1 h1
  have e1 : l = l.take j ++ (k, v) :: l.drop (j + 1) := by
    rw [← he, ← List.drop_eq_getElem_cons hj, List.take_append_drop]
  refine ⟨l.take j, l.drop (j + 1), e1, fun v' => ?_, ?_⟩
  · unfold aSet
    rw [h]
    exact List.set_eq_take_append_cons_drop .. |>.trans (by rw [if_pos hj])
  · unfold aDel
    rw [h]
    exact List.eraseIdx_eq_take_drop_succ ..
theorem aGet_some {l : List (κ × ν)} {k : κ} {v : ν} (h : aGet l k = some v) : ∃ j, aFind l k 0 = some (j, v) := by
  unfold aGet at h
  cases hf : aFind l k 0 with
  | none => rw [hf] at h; cases h
  | some p => rw [hf] at h; obtain ⟨j, v'⟩ := p; simp at h; subst h; exact ⟨j, rfl⟩
theorem aGet_none {l : List (κ × ν)} {k : κ} : aGet l k = none ↔ aFind l k 0 = none := by
  unfold aGet; simp
theorem aSet_new {l : List (κ × ν)} {k : κ} (h : aGet l k = none) (v : ν) : aSet l k v = l ++ [(k, v)] := by
  unfold aSet; rw [aGet_none.1 h]
theorem aDel_new {l : List (κ × ν)} {k : κ} (h : aGet l k = none) : aDel l k = l := by
  unfold aDel; rw [aGet_none.1 h]
theorem aFind_map {μ : Type} (f : ν → μ) (k : κ) : ∀ (l : List (κ × ν)) (i : Nat), aFind (l.map fun p => (p.1, f p.2)) k i = (aFind l k i).map fun p => (p.1, f p.2)
  | [], i => rfl
  | p :: l, i => by
    simp only [List.map_cons, aFind]
    split
    · rfl
    · exact aFind_map f k l (i + 1)
theorem aGet_map {μ : Type} (f : ν → μ) (k : κ) (l : List (κ × ν)) : aGet (l.map fun p => (p.1, f p.2)) k = (aGet l k).map f := by
  unfold aGet; rw [aFind_map]; cases aFind l k 0 <;> rfl
theorem aSet_map {μ : Type} (f : ν → μ) (k : κ) (v : ν) (l : List (κ × ν)) : aSet (l.map fun p => (p.1, f p.2)) k (f v) = (aSet l k v).map fun p => (p.1, f p.2) := by
  unfold aSet; rw [aFind_map]
  cases aFind l k 0 with
  | none => simp
  | some p => simp [List.map_set]
theorem aDel_map {μ : Type} (f : ν → μ) (k : κ) (l : List (κ × ν)) : aDel (l.map fun p => (p.1, f p.2)) k = (aDel l k).map fun p => (p.1, f p.2) := by
  unfold aDel; rw [aFind_map]
  cases aFind l k 0 with
  | none => simp
  | some p => simp [map_eraseIdx']
theorem aSet_same {l : List (κ × ν)} {k : κ} {v : ν} (h : aGet l k = some v) : aSet l k v = l := by
  obtain ⟨j, hj⟩ := aGet_some h
  obtain ⟨A, B, h1, h2, -⟩ := aFind_split hj
  rw [h2, ← h1]
end

section
variable {κ ν : Type} [DecidableEq κ]
theorem aFind_succ (k : κ) : ∀ (l : List (κ × ν)) (i : Nat), aFind l k (i + 1) = (aFind l k i).map fun p => (p.1 + 1, p.2)
  | [], i => rfl
  | p :: l, i => by
    simp only [aFind]
    split
    · rfl
    · exact aFind_succ k l (i + 1)
theorem aGet_nil (k : κ) : aGet ([] : List (κ × ν)) k = none := rfl
theorem aGet_cons (p : κ × ν) (l : List (κ × ν)) (k : κ) : aGet (p :: l) k = if k = p.1 then some p.2 else aGet l k := by
  unfold aGet
  simp only [aFind]
  split
  · rfl
  · rw [aFind_succ]; cases aFind l k 0 <;> rfl
theorem aSet_nil (k : κ) (v : ν) : aSet [] k v = [(k, v)] := rfl
theorem aSet_cons (p : κ × ν) (l : List (κ × ν)) (k : κ) (v : ν) : aSet (p :: l) k v = if k = p.1 then (k, v) :: l else p :: aSet l k v := by
  unfold aSet
  simp only [aFind]
  by_cases h : k = p.1
  · rw [if_pos h, if_pos h]; rfl
  · rw [if_neg h, if_neg h, aFind_succ]; cases aFind l k 0 <;> rfl
theorem aDel_nil (k : κ) : aDel ([] : List (κ × ν)) k = [] := rfl
theorem aDel_cons (p : κ × ν) (l : List (κ × ν)) (k : κ) : aDel (p :: l) k = if k = p.1 then l else p :: aDel l k := by
  unfold aDel
  simp only [aFind]
  by_cases h : k = p.1
  · rw [if_pos h, if_pos h]; rfl
  · rw [if_neg h, if_neg h, aFind_succ]; cases aFind l k 0 <;> rfl
theorem aGet_aSet (k k' : κ) (v : ν) : ∀ l : List (κ × ν), aGet (aSet l k v) k' = if k' = k then some v else aGet l k'
  | [] => by rw [aSet_nil, aGet_cons]
  | p :: l => by
    rw [aSet_cons]
    by_cases h : k = p.1
    · rw [if_pos h, aGet_cons, aGet_cons]
      by_cases h2 : k' = k
      · rw [if_pos h2, if_pos h2]
      · rw [if_neg h2, if_neg h2, if_neg (by rw [← h]; exact h2)]
    · rw [if_neg h, aGet_cons, aGet_cons, aGet_aSet k k' v l]
      by_cases h2 : k' = k
      · rw [if_pos h2, if_pos h2, if_neg (by rw [h2]; exact h)]
      · rw [if_neg h2, if_neg h2]
theorem aSet_aSet (k : κ) (v v' : ν) : ∀ l : List (κ × ν), aSet (aSet l k v) k v' = aSet l k v'
  | [] => by rw [aSet_nil, aSet_cons, if_pos rfl]; rfl
  | p :: l => by
    rw [aSet_cons]
    by_cases h : k = p.1
    · rw [if_pos h, aSet_cons, aSet_cons, if_pos h, if_pos rfl]
    · rw [if_neg h, aSet_cons, aSet_cons, if_neg h, if_neg h, aSet_aSet k v v' l]
/-- each key once -/
def Keys1 (l : List (κ × ν)) : Prop := (l.map (·.1)).Nodup
theorem aGet_mem {k : κ} {v : ν} : ∀ {l : List (κ × ν)}, aGet l k = some v → (k, v) ∈ l
  | [], h => by cases h
  | p :: l, h => by
    rw [aGet_cons] at h
    split at h
    · rename_i he; injection h with h; subst he h; exact List.mem_cons_self ..
    · exact List.mem_cons_of_mem _ (aGet_mem h)
theorem aGet_of_mem {k : κ} {v : ν} : ∀ {l : List (κ × ν)}, Keys1 l → (k, v) ∈ l → aGet l k = some v
  | [], _, h => by cases h
  | p :: l, hn, h => by
    rw [aGet_cons]
    unfold Keys1 at hn
    rw [List.map_cons, List.nodup_cons] at hn
    rcases List.mem_cons.1 h with h | h
    · subst h; rw [if_pos rfl]
    · rw [if_neg (fun (he : k = p.1) => hn.1 (by rw [← he]; exact List.mem_map_of_mem (f := (·.1)) h)), aGet_of_mem hn.2 h]
theorem aGet_keys {k : κ} {l : List (κ × ν)} : (aGet l k).isSome = true ↔ k ∈ l.map (·.1) := by
  induction l with
  | nil => simp [aGet_nil]
  | cons p l ih =>
    rw [aGet_cons, List.map_cons, List.mem_cons]
    split
    · rename_i h; simp [h]
    · rename_i h; rw [ih]; simp [h]
theorem aSet_keys {k k' : κ} {v : ν} {l : List (κ × ν)} : k' ∈ (aSet l k v).map (·.1) ↔ k' = k ∨ k' ∈ l.map (·.1) := by
  rw [← aGet_keys, ← aGet_keys, aGet_aSet]
  split
  · rename_i h; simp [h]
  · rename_i h; simp [h]
theorem Keys1.set {k : κ} {v : ν} : ∀ {l : List (κ × ν)}, Keys1 l → Keys1 (aSet l k v)
  | [], _ => by rw [aSet_nil]; simp [Keys1]
  | p :: l, hn => by
    rw [aSet_cons]
    unfold Keys1 at hn ⊢
    rw [List.map_cons, List.nodup_cons] at hn
    split
    · rename_i h; subst h; rw [List.map_cons, List.nodup_cons]; exact hn
    · rename_i h
      rw [List.map_cons, List.nodup_cons]
      exact ⟨fun hm => by rcases aSet_keys.1 hm with h1 | h1; exact h h1.symm; exact hn.1 h1, Keys1.set hn.2⟩
theorem Keys1.del {k : κ} {l : List (κ × ν)} (hn : Keys1 l) : Keys1 (aDel l k) := by
  unfold aDel
  split
  · exact hn.sublist ((List.eraseIdx_sublist _ _).map _)
  · exact hn
theorem aDel_keys {k k' : κ} {l : List (κ × ν)} (hn : Keys1 l) : k' ∈ (aDel l k).map (·.1) ↔ k' ≠ k ∧ k' ∈ l.map (·.1) := by
  induction l with
  | nil => simp [aDel_nil]
  | cons p l ih =>
    unfold Keys1 at hn
    rw [List.map_cons, List.nodup_cons] at hn
    rw [aDel_cons, List.map_cons, List.mem_cons]
    split
    · rename_i h
      subst h
      exact ⟨fun hm => ⟨fun he => hn.1 (he ▸ hm), .inr hm⟩, fun ⟨h1, h2⟩ => h2.elim (fun h3 => absurd h3 h1) id⟩
    · rename_i h
      rw [List.map_cons, List.mem_cons, ih hn.2]
      constructor
      · rintro (rfl | ⟨h1, h2⟩)
        · exact ⟨fun he => h he.symm, .inl rfl⟩
        · exact ⟨h1, .inr h2⟩
      · rintro ⟨h1, rfl | h2⟩
        · exact .inl rfl
        · exact .inr ⟨h1, h2⟩
theorem aGet_aDel {k k' : κ} : ∀ {l : List (κ × ν)}, Keys1 l → aGet (aDel l k) k' = if k' = k then none else aGet l k'
  | [], _ => by rw [aDel_nil, aGet_nil]; simp
  | p :: l, hn => by
    have hn' := hn
    unfold Keys1 at hn'
    rw [List.map_cons, List.nodup_cons] at hn'
    rw [aDel_cons, aGet_cons]
    by_cases h : k = p.1
    · rw [if_pos h]
      by_cases h2 : k' = k
      · rw [if_pos h2]
        cases hg : aGet l k' with
        | none => rfl
        | some v => exact absurd (aGet_keys.1 (by rw [hg]; rfl)) (by rw [h2, h]; exact hn'.1)
      · rw [if_neg h2, if_neg (by rw [← h]; exact h2)]
    · rw [if_neg h, aGet_cons, aGet_aDel hn'.2]
      by_cases h2 : k' = k
      · rw [if_neg (by rw [h2]; exact h), if_pos h2, if_pos h2]
      · rw [if_neg h2, if_neg h2]
theorem aSet_length (k : κ) (v : ν) : ∀ l : List (κ × ν), (aSet l k v).length = if (aGet l k).isSome then l.length else l.length + 1
  | [] => rfl
  | p :: l => by
    rw [aSet_cons, aGet_cons]
    split
    · simp
    · rw [List.length_cons, aSet_length k v l]; split <;> simp
theorem aDel_length (k : κ) : ∀ l : List (κ × ν), (aDel l k).length ≤ l.length
  | [] => Nat.le_refl _
  | p :: l => by
    rw [aDel_cons]
    split
    · simp
    · have := aDel_length k l; simp only [List.length_cons]; omega
end

/-- a table, with its blocks -/
def TbB (T : Tb) (on ow : Obj) (hs : List (Nat × Obj)) : Prop := MapO strV ptV T.names on ∧ MapO keyI wtV T.waits ow ∧ NmsH T.names hs
def tbL (g bn bw : Nat) (on ow : Obj) (hs : List (Nat × Obj)) : List (Nat × Obj) := (g, tbO bn bw) :: (bn, on) :: (bw, ow) :: hs
def TbH (T : Tb) (g : Nat) (h : List (Nat × Obj)) : Prop := ∃ bn bw on ow hs, h = tbL g bn bw on ow hs ∧ TbB T on ow hs
def noNm : Nm := ⟨[], [], []⟩
def putN (T : Tb) (s : List UInt8) (q : Nat × Nm) : Tb := ⟨aSet T.names s q, T.waits⟩
/-- one name of a table, and the rest -/
theorem TbB.focus {T : Tb} {on ow : Obj} {hs : List (Nat × Obj)} {s : List UInt8} {gn : Nat} {n : Nm} (hB : TbB T on ow hs) (hg : aGet T.names s = some (gn, n)) :
    ∃ A B hn hF, T.names = A ++ (s, (gn, n)) :: B ∧ NmH n gn hn ∧ NmsH (A ++ B) hF ∧ (hn ++ hF).Perm hs ∧ aDel T.names s = A ++ B ∧
      (∀ n' hn' hs', NmH n' gn hn' → (hn' ++ hF).Perm hs' → TbB (putN T s (gn, n')) on ow hs') := by
  obtain ⟨h2, h3, h4⟩ := hB
  obtain ⟨j, hj⟩ := aGet_some hg
  obtain ⟨A, B, e1, e2, e3⟩ := aFind_split hj
  rw [e1] at h4
  obtain ⟨hn, hF, h6, h7, h8⟩ := NmsH.mid.1 h4
  refine ⟨A, B, hn, hF, e1, h6, h7, h8, e3, fun n' hn' hs' hh hp => ⟨?_, h3, ?_⟩⟩
  · obtain ⟨es, clock, he, hes, hr⟩ := h2
    refine ⟨es, clock, he, ?_, hr⟩
    rw [hes, putN, e2, e1]
    simp [ptV]
  · rw [putN, e2]
    exact NmsH.mid.2 ⟨hn', hF, hh, h7, hp⟩
end Go.Proofs.Ytakifgecgmdjcaa
