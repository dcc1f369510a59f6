/- Texts of this work, put together: LkD, LkE, LkF, LkG, LkH, LkI, LkJ, LkK, LkL, LkM, LkN, LkO, LkP, LkQ, LkR, LkT, LkU, LkV, LkW, LkX, LkY, LkZ, LkAA, LkAB, LkAC, LkAD, LkAE, LkAF, LkAG, LkAH, LkAI, LkAJ, Sz, LkAK, LkAL, LkAM. -/
import Derived.Test.YtakifgecgmdjcaaGreatUP3
import Derived.Deep.Slices
import Derived.ChangeArms
import Derived.Laws.StructEq
import Derived.Tactics
import Derived.Shelf.SlSortCmp.WholeK
import Derived.Ground.SlsfProg
import Derived.Test.YtakifgecgmdjcaaGreatProg
import Derived.Shelf.SlSortCmp.NoneTotal
/- Locks: a table in memory. -/
namespace Go.Proofs.YtakifgecgmdjcaaGreat
open Go Xf Go.RowKit
set_option linter.unusedVariables false
set_option linter.unusedSimpArgs false
set_option maxRecDepth 100000

/-- what somebody waits for -/
structure Wt where
  name : List UInt8
  mode : Int
def wtV (w : Wt) : Value := .agg #[strV w.name, .int .i64 w.mode]
structure Tb where
  names : List (List UInt8 × (Nat × Nm))
  waits : List (Int × Wt)
def ptV (p : Nat × Nm) : Value := .pointer (some ⟨p.1, 0, none⟩)
def tbO (bn bw : Nat) : Obj := .cells #[.map (some bn), .map (some bw)] 67 (0, 0)
theorem uNames : Tryz.prog.underlying 64 = some (.map 9 92) := by kernel_rfl
theorem uWaits : Tryz.prog.underlying 65 = some (.map 3 31) := by kernel_rfl
/-- the names' blocks -/
def NmsE : List (List UInt8 × (Nat × Nm)) → List (Nat × Obj) → Prop
  | [], h => h = []
  | p :: l, h => ∃ h1 h2, h = h1 ++ h2 ∧ NmH p.2.2 p.2.1 h1 ∧ NmsE l h2
theorem NmsE.append : ∀ {A B : List (List UInt8 × (Nat × Nm))} {h : List (Nat × Obj)}, NmsE (A ++ B) h ↔ ∃ h1 h2, h = h1 ++ h2 ∧ NmsE A h1 ∧ NmsE B h2
  | [], B, h => ⟨fun hh => ⟨[], h, rfl, rfl, hh⟩, by rintro ⟨h1, h2, rfl, rfl, h4⟩; exact h4⟩
  | p :: A, B, h => by
    constructor
    · rintro ⟨h1, h2, rfl, h3, h4⟩
      obtain ⟨h5, h6, rfl, h7, h8⟩ := NmsE.append.1 h4
      exact ⟨h1 ++ h5, h6, by rw [List.append_assoc], ⟨h1, h5, rfl, h3, h7⟩, h8⟩
    · rintro ⟨h1, h2, rfl, ⟨h5, h6, rfl, h7, h8⟩, h4⟩
      exact ⟨h5, h6 ++ h2, by rw [List.append_assoc], h7, NmsE.append.2 ⟨h6, h2, rfl, h8, h4⟩⟩
def NmsH (l : List (List UInt8 × (Nat × Nm))) (h : List (Nat × Obj)) : Prop := ∃ h0, NmsE l h0 ∧ h0.Perm h
theorem NmsH.mid {A B : List (List UInt8 × (Nat × Nm))} {p : List UInt8 × (Nat × Nm)} {h : List (Nat × Obj)} : NmsH (A ++ p :: B) h ↔ ∃ hn hF, NmH p.2.2 p.2.1 hn ∧ NmsH (A ++ B) hF ∧ (hn ++ hF).Perm h := by
  constructor
  · rintro ⟨h0, h1, h2⟩
    obtain ⟨h3, h4, rfl, h5, h6, h7, rfl, h8, h9⟩ := NmsE.append.1 h1
    refine ⟨h6, h3 ++ h7, h8, ⟨_, NmsE.append.2 ⟨_, _, rfl, h5, h9⟩, List.Perm.refl _⟩, ?_⟩
    refine List.Perm.trans ?_ h2
    rw [← List.append_assoc, ← List.append_assoc]
    exact List.perm_append_comm.append_right _
  · rintro ⟨hn, hF, h1, ⟨h0, h2, h3⟩, h4⟩
    obtain ⟨h5, h6, rfl, h7, h8⟩ := NmsE.append.1 h2
    refine ⟨h5 ++ (hn ++ h6), NmsE.append.2 ⟨_, _, rfl, h7, hn, h6, rfl, h1, h8⟩, ?_⟩
    refine List.Perm.trans ?_ ((h3.append_left hn).trans h4)
    rw [← List.append_assoc, ← List.append_assoc]
    exact List.perm_append_comm.append_right _
theorem NmsH.nil_ : NmsH [] [] := ⟨[], rfl, List.Perm.refl _⟩

section
variable {κ ν : Type} [DecidableEq κ]
theorem aFind_split {l : List (κ × ν)} {k : κ} {j : Nat} {v : ν} (h : aFind l k 0 = some (j, v)) : ∃ A B, l = A ++ (k, v) :: B ∧ (∀ v', aSet l k v' = A ++ (k, v') :: B) ∧ aDel l k = A ++ B := by
  obtain ⟨-, h1⟩ := aFind_some h
  rw [Nat.sub_zero] at h1
  obtain ⟨hj, he⟩ := List.getElem?_eq_some_iff.1 h1
  have e1 : l = l.take j ++ (k, v) :: l.drop (j + 1) := by
    rw [← he, ← List.drop_eq_getElem_cons hj, List.take_append_drop]
  refine ⟨l.take j, l.drop (j + 1), e1, fun v' => ?_, ?_⟩
  · unfold aSet
    rw [h]
    exact List.set_eq_take_append_cons_drop .. |>.trans (by rw [if_pos hj])
  · unfold aDel
    rw [h]
    exact List.eraseIdx_eq_take_drop_succ ..
theorem aGet_some {l : List (κ × ν)} {k : κ} {v : ν} (h : aGet l k = some v) : ∃ j, aFind l k 0 = some (j, v) := by
  unfold aGet at h
  cases hf : aFind l k 0 with
  | none => rw [hf] at h; cases h
  | some p => rw [hf] at h; obtain ⟨j, v'⟩ := p; simp at h; subst h; exact ⟨j, rfl⟩
theorem aGet_none {l : List (κ × ν)} {k : κ} : aGet l k = none ↔ aFind l k 0 = none := by
  unfold aGet; simp
theorem aSet_new {l : List (κ × ν)} {k : κ} (h : aGet l k = none) (v : ν) : aSet l k v = l ++ [(k, v)] := by
  unfold aSet; rw [aGet_none.1 h]
theorem aDel_new {l : List (κ × ν)} {k : κ} (h : aGet l k = none) : aDel l k = l := by
  unfold aDel; rw [aGet_none.1 h]
theorem aFind_map {μ : Type} (f : ν → μ) (k : κ) : ∀ (l : List (κ × ν)) (i : Nat), aFind (l.map fun p => (p.1, f p.2)) k i = (aFind l k i).map fun p => (p.1, f p.2)
  | [], i => rfl
  | p :: l, i => by
    simp only [List.map_cons, aFind]
    split
    · rfl
    · exact aFind_map f k l (i + 1)
theorem aGet_map {μ : Type} (f : ν → μ) (k : κ) (l : List (κ × ν)) : aGet (l.map fun p => (p.1, f p.2)) k = (aGet l k).map f := by
  unfold aGet; rw [aFind_map]; cases aFind l k 0 <;> rfl
theorem aSet_map {μ : Type} (f : ν → μ) (k : κ) (v : ν) (l : List (κ × ν)) : aSet (l.map fun p => (p.1, f p.2)) k (f v) = (aSet l k v).map fun p => (p.1, f p.2) := by
  unfold aSet; rw [aFind_map]
  cases aFind l k 0 with
  | none => simp
  | some p => simp [List.map_set]
theorem aDel_map {μ : Type} (f : ν → μ) (k : κ) (l : List (κ × ν)) : aDel (l.map fun p => (p.1, f p.2)) k = (aDel l k).map fun p => (p.1, f p.2) := by
  unfold aDel; rw [aFind_map]
  cases aFind l k 0 with
  | none => simp
  | some p => simp [map_eraseIdx']
theorem aSet_same {l : List (κ × ν)} {k : κ} {v : ν} (h : aGet l k = some v) : aSet l k v = l := by
  obtain ⟨j, hj⟩ := aGet_some h
  obtain ⟨A, B, h1, h2, -⟩ := aFind_split hj
  rw [h2, ← h1]
end

section
variable {κ ν : Type} [DecidableEq κ]
theorem aFind_succ (k : κ) : ∀ (l : List (κ × ν)) (i : Nat), aFind l k (i + 1) = (aFind l k i).map fun p => (p.1 + 1, p.2)
  | [], i => rfl
  | p :: l, i => by
    simp only [aFind]
    split
    · rfl
    · exact aFind_succ k l (i + 1)
theorem aGet_nil (k : κ) : aGet ([] : List (κ × ν)) k = none := rfl
theorem aGet_cons (p : κ × ν) (l : List (κ × ν)) (k : κ) : aGet (p :: l) k = if k = p.1 then some p.2 else aGet l k := by
  unfold aGet
  simp only [aFind]
  split
  · rfl
  · rw [aFind_succ]; cases aFind l k 0 <;> rfl
theorem aSet_nil (k : κ) (v : ν) : aSet [] k v = [(k, v)] := rfl
theorem aSet_cons (p : κ × ν) (l : List (κ × ν)) (k : κ) (v : ν) : aSet (p :: l) k v = if k = p.1 then (k, v) :: l else p :: aSet l k v := by
  unfold aSet
  simp only [aFind]
  by_cases h : k = p.1
  · rw [if_pos h, if_pos h]; rfl
  · rw [if_neg h, if_neg h, aFind_succ]; cases aFind l k 0 <;> rfl
theorem aDel_nil (k : κ) : aDel ([] : List (κ × ν)) k = [] := rfl
theorem aDel_cons (p : κ × ν) (l : List (κ × ν)) (k : κ) : aDel (p :: l) k = if k = p.1 then l else p :: aDel l k := by
  unfold aDel
  simp only [aFind]
  by_cases h : k = p.1
  · rw [if_pos h, if_pos h]; rfl
  · rw [if_neg h, if_neg h, aFind_succ]; cases aFind l k 0 <;> rfl
theorem aGet_aSet (k k' : κ) (v : ν) : ∀ l : List (κ × ν), aGet (aSet l k v) k' = if k' = k then some v else aGet l k'
  | [] => by rw [aSet_nil, aGet_cons]
  | p :: l => by
    rw [aSet_cons]
    by_cases h : k = p.1
    · rw [if_pos h, aGet_cons, aGet_cons]
      by_cases h2 : k' = k
      · rw [if_pos h2, if_pos h2]
      · rw [if_neg h2, if_neg h2, if_neg (by rw [← h]; exact h2)]
    · rw [if_neg h, aGet_cons, aGet_cons, aGet_aSet k k' v l]
      by_cases h2 : k' = k
      · rw [if_pos h2, if_pos h2, if_neg (by rw [h2]; exact h)]
      · rw [if_neg h2, if_neg h2]
theorem aSet_aSet (k : κ) (v v' : ν) : ∀ l : List (κ × ν), aSet (aSet l k v) k v' = aSet l k v'
  | [] => by rw [aSet_nil, aSet_cons, if_pos rfl]; rfl
  | p :: l => by
    rw [aSet_cons]
    by_cases h : k = p.1
    · rw [if_pos h, aSet_cons, aSet_cons, if_pos h, if_pos rfl]
    · rw [if_neg h, aSet_cons, aSet_cons, if_neg h, if_neg h, aSet_aSet k v v' l]
/-- each key once -/
def Keys1 (l : List (κ × ν)) : Prop := (l.map (·.1)).Nodup
theorem aGet_mem {k : κ} {v : ν} : ∀ {l : List (κ × ν)}, aGet l k = some v → (k, v) ∈ l
  | [], h => by cases h
  | p :: l, h => by
    rw [aGet_cons] at h
    split at h
    · rename_i he; injection h with h; subst he h; exact List.mem_cons_self ..
    · exact List.mem_cons_of_mem _ (aGet_mem h)
theorem aGet_of_mem {k : κ} {v : ν} : ∀ {l : List (κ × ν)}, Keys1 l → (k, v) ∈ l → aGet l k = some v
  | [], _, h => by cases h
  | p :: l, hn, h => by
    rw [aGet_cons]
    unfold Keys1 at hn
    rw [List.map_cons, List.nodup_cons] at hn
    rcases List.mem_cons.1 h with h | h
    · subst h; rw [if_pos rfl]
    · rw [if_neg (fun (he : k = p.1) => hn.1 (by rw [← he]; exact List.mem_map_of_mem (f := (·.1)) h)), aGet_of_mem hn.2 h]
theorem aGet_keys {k : κ} {l : List (κ × ν)} : (aGet l k).isSome = true ↔ k ∈ l.map (·.1) := by
  induction l with
  | nil => simp [aGet_nil]
  | cons p l ih =>
    rw [aGet_cons, List.map_cons, List.mem_cons]
    split
    · rename_i h; simp [h]
    · rename_i h; rw [ih]; simp [h]
theorem aSet_keys {k k' : κ} {v : ν} {l : List (κ × ν)} : k' ∈ (aSet l k v).map (·.1) ↔ k' = k ∨ k' ∈ l.map (·.1) := by
  rw [← aGet_keys, ← aGet_keys, aGet_aSet]
  split
  · rename_i h; simp [h]
  · rename_i h; simp [h]
theorem Keys1.set {k : κ} {v : ν} : ∀ {l : List (κ × ν)}, Keys1 l → Keys1 (aSet l k v)
  | [], _ => by rw [aSet_nil]; simp [Keys1]
  | p :: l, hn => by
    rw [aSet_cons]
    unfold Keys1 at hn ⊢
    rw [List.map_cons, List.nodup_cons] at hn
    split
    · rename_i h; subst h; rw [List.map_cons, List.nodup_cons]; exact hn
    · rename_i h
      rw [List.map_cons, List.nodup_cons]
      exact ⟨fun hm => by rcases aSet_keys.1 hm with h1 | h1; exact h h1.symm; exact hn.1 h1, Keys1.set hn.2⟩
theorem Keys1.del {k : κ} {l : List (κ × ν)} (hn : Keys1 l) : Keys1 (aDel l k) := by
  unfold aDel
  split
  · exact hn.sublist ((List.eraseIdx_sublist _ _).map _)
  · exact hn
theorem aDel_keys {k k' : κ} {l : List (κ × ν)} (hn : Keys1 l) : k' ∈ (aDel l k).map (·.1) ↔ k' ≠ k ∧ k' ∈ l.map (·.1) := by
  induction l with
  | nil => simp [aDel_nil]
  | cons p l ih =>
    unfold Keys1 at hn
    rw [List.map_cons, List.nodup_cons] at hn
    rw [aDel_cons, List.map_cons, List.mem_cons]
    split
    · rename_i h
      subst h
      exact ⟨fun hm => ⟨fun he => hn.1 (he ▸ hm), .inr hm⟩, fun ⟨h1, h2⟩ => h2.elim (fun h3 => absurd h3 h1) id⟩
    · rename_i h
      rw [List.map_cons, List.mem_cons, ih hn.2]
      constructor
      · rintro (rfl | ⟨h1, h2⟩)
        · exact ⟨fun he => h he.symm, .inl rfl⟩
        · exact ⟨h1, .inr h2⟩
      · rintro ⟨h1, rfl | h2⟩
        · exact .inl rfl
        · exact .inr ⟨h1, h2⟩
theorem aGet_aDel {k k' : κ} : ∀ {l : List (κ × ν)}, Keys1 l → aGet (aDel l k) k' = if k' = k then none else aGet l k'
  | [], _ => by rw [aDel_nil, aGet_nil]; simp
  | p :: l, hn => by
    have hn' := hn
    unfold Keys1 at hn'
    rw [List.map_cons, List.nodup_cons] at hn'
    rw [aDel_cons, aGet_cons]
    by_cases h : k = p.1
    · rw [if_pos h]
      by_cases h2 : k' = k
      · rw [if_pos h2]
        cases hg : aGet l k' with
        | none => rfl
        | some v => exact absurd (aGet_keys.1 (by rw [hg]; rfl)) (by rw [h2, h]; exact hn'.1)
      · rw [if_neg h2, if_neg (by rw [← h]; exact h2)]
    · rw [if_neg h, aGet_cons, aGet_aDel hn'.2]
      by_cases h2 : k' = k
      · rw [if_neg (by rw [h2]; exact h), if_pos h2, if_pos h2]
      · rw [if_neg h2, if_neg h2]
theorem aSet_length (k : κ) (v : ν) : ∀ l : List (κ × ν), (aSet l k v).length = if (aGet l k).isSome then l.length else l.length + 1
  | [] => rfl
  | p :: l => by
    rw [aSet_cons, aGet_cons]
    split
    · simp
    · rw [List.length_cons, aSet_length k v l]; split <;> simp
theorem aDel_length (k : κ) : ∀ l : List (κ × ν), (aDel l k).length ≤ l.length
  | [] => Nat.le_refl _
  | p :: l => by
    rw [aDel_cons]
    split
    · simp
    · have := aDel_length k l; simp only [List.length_cons]; omega
end

/-- a table, with its blocks -/
def TbB (T : Tb) (on ow : Obj) (hs : List (Nat × Obj)) : Prop := MapO strV ptV T.names on ∧ MapO keyI wtV T.waits ow ∧ NmsH T.names hs
def tbL (g bn bw : Nat) (on ow : Obj) (hs : List (Nat × Obj)) : List (Nat × Obj) := (g, tbO bn bw) :: (bn, on) :: (bw, ow) :: hs
def TbH (T : Tb) (g : Nat) (h : List (Nat × Obj)) : Prop := ∃ bn bw on ow hs, h = tbL g bn bw on ow hs ∧ TbB T on ow hs
def noNm : Nm := ⟨[], [], []⟩
def putN (T : Tb) (s : List UInt8) (q : Nat × Nm) : Tb := ⟨aSet T.names s q, T.waits⟩
/-- one name of a table, and the rest -/
theorem TbB.focus {T : Tb} {on ow : Obj} {hs : List (Nat × Obj)} {s : List UInt8} {gn : Nat} {n : Nm} (hB : TbB T on ow hs) (hg : aGet T.names s = some (gn, n)) :
    ∃ A B hn hF, T.names = A ++ (s, (gn, n)) :: B ∧ NmH n gn hn ∧ NmsH (A ++ B) hF ∧ (hn ++ hF).Perm hs ∧ aDel T.names s = A ++ B ∧
      (∀ n' hn' hs', NmH n' gn hn' → (hn' ++ hF).Perm hs' → TbB (putN T s (gn, n')) on ow hs') := by
  obtain ⟨h2, h3, h4⟩ := hB
  obtain ⟨j, hj⟩ := aGet_some hg
  obtain ⟨A, B, e1, e2, e3⟩ := aFind_split hj
  rw [e1] at h4
  obtain ⟨hn, hF, h6, h7, h8⟩ := NmsH.mid.1 h4
  refine ⟨A, B, hn, hF, e1, h6, h7, h8, e3, fun n' hn' hs' hh hp => ⟨?_, h3, ?_⟩⟩
  · obtain ⟨es, clock, he, hes, hr⟩ := h2
    refine ⟨es, clock, he, ?_, hr⟩
    rw [hes, putN, e2, e1]
    simp [ptV]
  · rw [putN, e2]
    exact NmsH.mid.2 ⟨hn', hF, hh, h7, hp⟩
end Go.Proofs.YtakifgecgmdjcaaGreat

/- Locks: a table in a world, and what is done to it. -/
namespace Go.Proofs.YtakifgecgmdjcaaGreat
open Go Xf Go.RowKit
set_option linter.unusedVariables false
set_option linter.unusedSimpArgs false
set_option maxRecDepth 100000

def TbAt (W : World) (ks : List Nat) (F : List (Nat × Obj)) (T : Tb) (g : Nat) (w : World) : Prop :=
  Upd W w ks ∧ ∃ h, TbH T g h ∧ Owns w (h ++ F) ∧ ∀ p ∈ h, p.1 ∈ ks ∨ W.heap.size ≤ p.1
section
variable {W w w' : World} {ks : List Nat} {F G : List (Nat × Obj)} {T : Tb} {g : Nat} {K : Value → World → Prop}
theorem TbAt.upd (h : TbAt W ks F T g w) (hU : Upd w w' []) : TbAt W ks F T g w' := by
  obtain ⟨h1, h2, h3, h4, h5⟩ := h
  exact ⟨h1.then_ hU (fun x hx => by cases hx), h2, h3, h4.ext hU, h5⟩
theorem TbAt.weak (h : TbAt W ks F T g w) (hs : G.Sublist F) : TbAt W ks G T g w := by
  obtain ⟨h1, h2, h3, h4, h5⟩ := h
  exact ⟨h1, h2, h3, h4.sub (hs.append_left h2), h5⟩
theorem TbAt.permF (h : TbAt W ks F T g w) (hs : F.Perm G) : TbAt W ks G T g w := by
  obtain ⟨h1, h2, h3, h4, h5⟩ := h
  exact ⟨h1, h2, h3, h4.perm (hs.append_left h2), h5⟩
theorem TbAt.at_ (h : TbAt W ks F T g w) {b : Nat} {o : Obj} (hm : (b, o) ∈ F) : w.heap[b]? = some o := by
  obtain ⟨h1, h2, h3, h4, h5⟩ := h
  exact h4.2 _ (List.mem_append_right _ hm)
theorem TbAt.owns (h : TbAt W ks F T g w) : Owns w F := by
  obtain ⟨h1, h2, h3, h4, h5⟩ := h
  exact h4.sub (List.sublist_append_right h2 F)
/-- what a table's cells tell -/
theorem TbAt.look (h : TbAt W ks F T g w) : ∃ bn bw on ow, w.cell? ⟨g, 0, none⟩ = some (.map (some bn)) ∧ w.cell? ⟨g, 1, none⟩ = some (.map (some bw)) ∧ w.heap[bn]? = some on ∧ MapO strV ptV T.names on ∧ w.heap[bw]? = some ow ∧ MapO keyI wtV T.waits ow ∧ w.heap[g]? = some (tbO bn bw) := by
  obtain ⟨h1, h2, ⟨bn, bw, on, ow, hs, rfl, hB⟩, h4, h5⟩ := h
  have h0 := h4.at_ 0 rfl
  exact ⟨bn, bw, on, ow, (cell_at h0).trans rfl, (cell_at h0).trans rfl, h4.at_ 1 rfl, hB.1, h4.at_ 2 rfl, hB.2.1, h0⟩
theorem TbAt.add (h : TbAt W ks F T g w) (o : Obj) : TbAt W ks ((w.heap.size, o) :: F) T g (w.alloc o) ∧ W.heap.size ≤ w.heap.size := by
  obtain ⟨h1, h2, h3, h4, h5⟩ := h
  refine ⟨⟨h1.then_ (Upd.alloc _ _ []) (fun x hx => by cases hx), h2, h3, (h4.alloc o).perm ?_, h5⟩, h1.size⟩
  exact List.perm_middle.symm
theorem st_tbox {t : TypeId} {v : Value} (h : TbAt W ks F T g w) (hk : ∀ b w', TbAt W ks ((b, .cells v.cells t) :: F) T g w' → W.heap.size ≤ b → K (.pointer (some ⟨b, 0, none⟩)) w') : (std Tryz.prog).step (sBox t v) w K := by
  rw [step_run run_sBox]
  exact hk _ _ (h.add _).1 (h.add (.cells v.cells t)).2
theorem st_talloc {t : TypeId} {z : Value} (hz : (Tryz.prog.info? t).bind (·.zero) = some z) (h : TbAt W ks F T g w) (hk : ∀ b w', TbAt W ks ((b, .cells z.cells t) :: F) T g w' → W.heap.size ≤ b → K (.pointer (some ⟨b, 0, none⟩)) w') : (std Tryz.prog).step (sAlloc t) w K := by
  rw [step_run (run_sAlloc hz)]
  exact hk _ _ (h.add _).1 (h.add (.cells z.cells t)).2
/-- a store into a block beside the table -/
theorem st_tstoreN {t e : TypeId} {b : Nat} {cs : Array Value} {vs : List Value} (hn : (Tryz.prog.info? t).map (·.size) = some vs.length) (h : TbAt W ks ((b, .cells cs e (0, 0)) :: F) T g w) (hl : vs.length = cs.size) (h1 : ∀ u ∈ vs, u.oneCell' = true) (hb : b ∈ ks ∨ W.heap.size ≤ b)
    (hk : ∀ w', TbAt W ks ((b, .cells vs.toArray e (0, 0)) :: F) T g w' → K undef w') : (std Tryz.prog).step (sStore t (.pointer (some ⟨b, 0, none⟩)) (.agg vs.toArray)) w K := by
  obtain ⟨q1, hh, q3, q4, q5⟩ := h
  have hO : Owns w ((b, .cells cs e (0, 0)) :: (hh ++ F)) := q4.perm List.perm_middle
  refine st_storeN hn q1 hO 0 rfl (by omega) h1 hb ?_
  intro w' hU' hO'
  refine hk w' ⟨hU', hh, q3, ?_, q5⟩
  have e1 : (cs.toList.take 0 ++ vs ++ cs.toList.drop (0 + vs.length)).toArray = vs.toArray := by
    rw [List.take_zero, List.nil_append, Nat.zero_add, hl, List.drop_of_length_le (by simp), List.append_nil]
  have hO' : Owns w' ((b, .cells (cs.toList.take 0 ++ vs ++ cs.toList.drop (0 + vs.length)).toArray e (0, 0)) :: (hh ++ F)) := hO'
  rw [e1] at hO'
  exact hO'.perm List.perm_middle.symm
theorem st_tstore1 {t e : TypeId} {b : Nat} {v u : Value} (hn : (Tryz.prog.info? t).map (·.size) = some 1) (hv : oneB v = true) (h : TbAt W ks ((b, .cells #[u] e (0, 0)) :: F) T g w) (hb : b ∈ ks ∨ W.heap.size ≤ b)
    (hk : ∀ w', TbAt W ks ((b, .cells #[v] e (0, 0)) :: F) T g w' → K undef w') : (std Tryz.prog).step (sStore t (.pointer (some ⟨b, 0, none⟩)) v) w K := by
  obtain ⟨q1, hh, q3, q4, q5⟩ := h
  have hO : Owns w ((b, .cells #[u] e (0, 0)) :: (hh ++ F)) := q4.perm List.perm_middle
  refine st_storeB hn hv q1 hO 0 rfl (by simp) (.inr (Nat.zero_le _)) hb ?_
  intro w' hU' hO'
  exact hk w' ⟨hU', hh, q3, Owns.perm (h := (b, .cells #[v] e (0, 0)) :: (hh ++ F)) hO' List.perm_middle.symm, q5⟩
theorem st_waitsSet {bw : Nat} (h : TbAt W ks F T g w) (hc : w.cell? ⟨g, 1, none⟩ = some (.map (some bw))) (k : Int) (v : Wt) (hk : ∀ w', TbAt W ks F ⟨T.names, aSet T.waits k v⟩ g w' → K undef w') : (std Tryz.prog).step (sMapUpdate 65 (.map (some bw)) (keyI k) (wtV v)) w K := by
  obtain ⟨h1, h2, ⟨bn, bw', on, ow, hs, rfl, hB⟩, h4, h5⟩ := h
  have : bw' = bw := by
    have := (cell_at (off := 1) (h4.at_ 0 rfl)).symm.trans hc
    simpa using this
  subst this
  refine st_mapUpdate uWaits keyI_ok h1 h4 2 rfl hB.2.1 (h5 (bw', ow) (by simp [tbL])) k v ?_
  intro w' o' hm' hU' hO'
  refine hk w' ⟨hU', tbL g bn bw' on o' hs, ⟨bn, bw', on, o', hs, rfl, hB.1, hm', hB.2.2⟩, hO', fun p hp => ?_⟩
  simp only [tbL, List.mem_cons] at hp h5
  rcases hp with rfl | rfl | rfl | hp
  · exact h5 _ (.inl rfl)
  · exact h5 _ (.inr (.inl rfl))
  · exact h5 (bw', ow) (.inr (.inr (.inl rfl)))
  · exact h5 p (.inr (.inr (.inr hp)))
theorem st_waitsDel {bw : Nat} {ty kt' : TypeId} {cs : List Bool} (h : TbAt W ks F T g w) (hc : w.cell? ⟨g, 1, none⟩ = some (.map (some bw))) (k : Int) (hk : ∀ w', TbAt W ks F ⟨T.names, aDel T.waits k⟩ g w' → K (.tuple #[]) w') : (std Tryz.prog).step (sBuiltin .delete #[65, kt'] ty cs [.map (some bw), keyI k]) w K := by
  obtain ⟨h1, h2, ⟨bn, bw', on, ow, hs, rfl, hB⟩, h4, h5⟩ := h
  have : bw' = bw := by
    have := (cell_at (off := 1) (h4.at_ 0 rfl)).symm.trans hc
    simpa using this
  subst this
  refine st_mapDelete uWaits keyI_ok h1 h4 2 rfl hB.2.1 (h5 (bw', ow) (by simp [tbL])) k ?_
  intro w' o' hm' hU' hO'
  refine hk w' ⟨hU', tbL g bn bw' on o' hs, ⟨bn, bw', on, o', hs, rfl, hB.1, hm', hB.2.2⟩, hO', fun p hp => ?_⟩
  simp only [tbL, List.mem_cons] at hp h5
  rcases hp with rfl | rfl | rfl | hp
  · exact h5 _ (.inl rfl)
  · exact h5 _ (.inr (.inl rfl))
  · exact h5 (bw', ow) (.inr (.inr (.inl rfl)))
  · exact h5 p (.inr (.inr (.inr hp)))
def nm0 (bh : Nat) : Obj := nmO bh (.slice none 0 0) (.slice none 0 0)
theorem st_namesNew {bn gn bh : Nat} {s : List UInt8} (h : TbAt W ks ((gn, nm0 bh) :: (bh, .map #[] 0) :: F) T g w) (hc : w.cell? ⟨g, 0, none⟩ = some (.map (some bn))) (hn : aGet T.names s = none) (hg : W.heap.size ≤ gn) (hb : W.heap.size ≤ bh)
    (hk : ∀ w', TbAt W ks F (putN T s (gn, noNm)) g w' → K undef w') : (std Tryz.prog).step (sMapUpdate 64 (.map (some bn)) (strV s) (.pointer (some ⟨gn, 0, none⟩))) w K := by
  obtain ⟨h1, h2, ⟨bn', bw, on, ow, hs, rfl, hB⟩, h4, h5⟩ := h
  have : bn' = bn := by
    have := (cell_at (off := 0) (h4.at_ 0 rfl)).symm.trans hc
    simpa using this
  subst this
  refine st_mapUpdate (ve := ptV) uNames strV_ok h1 h4 1 rfl hB.1 (h5 (bn', on) (by simp [tbL])) s (gn, noNm) ?_
  intro w' o' hm' hU' hO'
  have hO' : Owns w' (tbL g bn' bw o' ow hs ++ ((gn, nm0 bh) :: (bh, .map #[] 0) :: F)) := hO'
  refine hk w' ⟨hU', tbL g bn' bw o' ow (hs ++ [(gn, nm0 bh), (bh, .map #[] 0)]), ⟨bn', bw, o', ow, _, rfl, hm', hB.2.1, ?_⟩, ?_, fun p hp => ?_⟩
  · show NmsH (aSet T.names s (gn, noNm)) _
    rw [aSet_new hn]
    refine NmsH.mid.2 ⟨[(gn, nm0 bh), (bh, .map #[] 0)], hs, ⟨bh, _, _, _, [], [], rfl, MapO.nil _ _, RowH.nil_ _ _, RowH.nil_ _ _⟩, by rw [List.append_nil]; exact hB.2.2, List.perm_append_comm⟩
  · have : tbL g bn' bw o' ow (hs ++ [(gn, nm0 bh), (bh, .map #[] 0)]) ++ F = tbL g bn' bw o' ow hs ++ ((gn, nm0 bh) :: (bh, .map #[] 0) :: F) := by simp [tbL]
    rw [this]; exact hO'
  · simp only [tbL, List.mem_cons, List.mem_append, List.not_mem_nil, or_false] at hp h5
    rcases hp with rfl | rfl | rfl | hp | rfl | rfl
    · exact h5 _ (.inl rfl)
    · exact h5 (bn', on) (.inr (.inl rfl))
    · exact h5 _ (.inr (.inr (.inl rfl)))
    · exact h5 p (.inr (.inr (.inr hp)))
    · exact .inr hg
    · exact .inr hb
theorem st_namesDel {bn : Nat} {ty kt' : TypeId} {cs : List Bool} {s : List UInt8} {gn : Nat} {n : Nm} (h : TbAt W ks F T g w) (hc : w.cell? ⟨g, 0, none⟩ = some (.map (some bn))) (hn : aGet T.names s = some (gn, n))
    (hk : ∀ w', TbAt W ks F ⟨aDel T.names s, T.waits⟩ g w' → K (.tuple #[]) w') : (std Tryz.prog).step (sBuiltin .delete #[64, kt'] ty cs [.map (some bn), strV s]) w K := by
  obtain ⟨h1, h2, ⟨bn', bw, on, ow, hs, rfl, hB⟩, h4, h5⟩ := h
  have : bn' = bn := by
    have := (cell_at (off := 0) (h4.at_ 0 rfl)).symm.trans hc
    simpa using this
  subst this
  refine st_mapDelete uNames strV_ok h1 h4 1 rfl hB.1 (h5 (bn', on) (by simp [tbL])) s ?_
  intro w' o' hm' hU' hO'
  have hO' : Owns w' (tbL g bn' bw o' ow hs ++ F) := hO'
  obtain ⟨A, B, hx, hF, e1, h6, h7, h8, e3, -⟩ := hB.focus hn
  refine hk w' ⟨hU', tbL g bn' bw o' ow hF, ⟨bn', bw, o', ow, _, rfl, hm', hB.2.1, ?_⟩, ?_, fun p hp => ?_⟩
  · show NmsH (aDel T.names s) _
    rw [e3]; exact h7
  · have hp : (tbL g bn' bw o' ow hs ++ F).Perm (hx ++ (tbL g bn' bw o' ow hF ++ F)) := by
      refine List.Perm.trans ((List.Perm.append_left (tbL g bn' bw o' ow []) (h8.symm)).append_right F |>.trans ?_ : (tbL g bn' bw o' ow hs ++ F).Perm _) (List.Perm.refl _)
      classical
      refine List.perm_iff_count.2 fun y => ?_
      simp only [tbL, List.count_cons, List.count_append, List.count_nil]
      omega
    exact (hO'.perm hp).sub (List.sublist_append_right _ _)
  · simp only [tbL, List.mem_cons] at hp h5
    rcases hp with rfl | rfl | rfl | hp
    · exact h5 _ (.inl rfl)
    · exact h5 (bn', on) (.inr (.inl rfl))
    · exact h5 _ (.inr (.inr (.inl rfl)))
    · exact h5 p (.inr (.inr (.inr (h8.mem_iff.1 (List.mem_append_right _ hp)))))
/-- one name, taken out and laid back -/
theorem TbAt.focus {s : List UInt8} {gn : Nat} {n : Nm} (h : TbAt W ks F T g w) (hn : aGet T.names s = some (gn, n)) : ∃ hx G, NmH n gn hx ∧ Owns w (hx ++ G) ∧ Upd W w ks ∧ (∀ p ∈ hx, p.1 ∈ ks ∨ W.heap.size ≤ p.1) ∧ (∀ p ∈ F, p ∈ G) ∧
    (∀ w' n' hx', NmH n' gn hx' → Owns w' (hx' ++ G) → Upd W w' ks → (∀ p ∈ hx', p.1 ∈ ks ∨ W.heap.size ≤ p.1) → TbAt W ks F (putN T s (gn, n')) g w') := by
  obtain ⟨h1, h2, ⟨bn, bw, on, ow, hs, rfl, hB⟩, h4, h5⟩ := h
  obtain ⟨A, B, hx, hF, e1, h6, h7, h8, e3, hcl⟩ := hB.focus hn
  have cnt : ∀ (hy hz : List (Nat × Obj)), (hy ++ hF).Perm hz → (hy ++ (tbL g bn bw on ow hF ++ F)).Perm (tbL g bn bw on ow hz ++ F) := fun hy hz hp => by
    refine List.Perm.trans ?_ ((List.Perm.append_left (tbL g bn bw on ow []) hp).append_right F)
    classical
    refine List.perm_iff_count.2 fun y => ?_
    simp only [tbL, List.count_cons, List.count_append, List.count_nil]
    omega
  refine ⟨hx, tbL g bn bw on ow hF ++ F, h6, h4.perm (cnt hx hs h8).symm, h1, fun p hp => h5 p ?_, fun p hp => List.mem_append_right _ hp, fun w' n' hx' q1 q2 q3 q4 => ?_⟩
  · have := h8.mem_iff.1 (List.mem_append_left hF hp)
    simp [tbL, this]
  · refine ⟨q3, tbL g bn bw on ow (hx' ++ hF), ⟨bn, bw, on, ow, _, rfl, hcl n' hx' _ q1 (List.Perm.refl _)⟩, q2.perm (cnt hx' _ (List.Perm.refl _)), fun p hp => ?_⟩
    simp only [tbL, List.mem_cons, List.mem_append] at hp h5
    rcases hp with rfl | rfl | rfl | hp | hp
    · exact h5 _ (.inl rfl)
    · exact h5 _ (.inr (.inl rfl))
    · exact h5 _ (.inr (.inr (.inl rfl)))
    · exact q4 p hp
    · exact h5 p (.inr (.inr (.inr (h8.mem_iff.1 (List.mem_append_right _ hp)))))
end
end Go.Proofs.YtakifgecgmdjcaaGreat

/- Locks: New, Ask. -/
namespace Go.Proofs.YtakifgecgmdjcaaGreat
open Go Xf Go.RowKit
set_option linter.unusedVariables false
set_option linter.unusedSimpArgs false
set_option maxRecDepth 100000

theorem build_tb (a b : Nat) (w : World) : (sBuild 67 [(0, .map (some a)), (1, .map (some b))]).run Tryz.prog w = .ok (.value (.agg #[.map (some a), .map (some b)])) w := by kernel_rfl
theorem build_nm (a : Nat) (w : World) : (sBuild 95 [(0, .map (some a))]).run Tryz.prog w = .ok (.value (.agg #[.map (some a), .slice none 0 0, .slice none 0 0])) w := by kernel_rfl
theorem row_int (a : Int) (w : World) : (sBuildSlice 44 1 [(0, .int .i64 a)]).run Tryz.prog w = .ok (.value (.slice (some ⟨w.heap.size, 0, none⟩) 1 1)) (w.alloc (.cells #[.int .i64 a] 3)) := by kernel_rfl
section
variable {W w w' : World} {ks : List Nat} {F G : List (Nat × Obj)} {T : Tb} {g : Nat} {K : Value → World → Prop}
theorem New_spec (hU : Upd W w ks) (hO : Owns w F) : CallsR Tryz.prog 6 #[] w fun u w' => ∃ g, u = .pointer (some ⟨g, 0, none⟩) ∧ W.heap.size ≤ g ∧ TbAt W ks F ⟨[], []⟩ g w' := by
  apply lock_New_sound
  unfold lock_New_x
  refine st_makeMap hU hO ?_
  intro bn w1 hU1 hO1 hbn
  refine st_makeMap hU1 hO1 ?_
  intro bw w2 hU2 hO2 hbw
  rw [step_run (build_tb _ _ _)]
  refine st_box hU2 hO2 ?_
  intro g w3 hU3 hO3 hg
  refine ⟨g, rfl, hg, hU3, tbL g bn bw (.map #[] 0) (.map #[] 0) [], ⟨bn, bw, _, _, [], rfl, MapO.nil _ _, MapO.nil _ _, NmsH.nil_⟩, ?_, fun p hp => ?_⟩
  · refine Owns.perm (h := (g, tbO bn bw) :: (bw, .map #[] 0) :: (bn, .map #[] 0) :: F) hO3 ?_
    exact (List.Perm.swap ..).cons _
  · simp only [tbL, List.mem_cons, List.not_mem_nil, or_false] at hp
    rcases hp with rfl | rfl | rfl
    · exact .inr hg
    · exact .inr hbn
    · exact .inr hbw

def argsOk (txn : Int) (w : Wt) : Prop := 1 ≤ txn ∧ 1 ≤ w.name.length ∧ w.name.length ≤ 16 ∧ 1 ≤ w.mode ∧ w.mode ≤ 5
instance (txn : Int) (w : Wt) : Decidable (argsOk txn w) := by unfold argsOk; infer_instance
def covB (n : Nm) (txn m : Int) : Bool := match aGet n.held txn with | some has => cov (sureN has) (sureN m) | none => false
def getsB (n : Nm) (txn m : Int) : Bool := goesB n txn (wouldN n txn m) && ((aGet n.held txn).isSome || decide (n.turns.length + n.row.length = 0))
def giveN (n : Nm) (txn m : Int) : Nm := { n with held := aSet n.held txn (wouldN n txn m) }
def queueN (n : Nm) (txn : Int) : Nm := if (aGet n.held txn).isSome then { n with turns := n.turns ++ [txn] } else { n with row := n.row ++ [txn] }
/-- Ask, where the name stands -/
def askAt (T : Tb) (q : Nat × Nm) (txn : Int) (w : Wt) : Tb × Bool :=
  if covB q.2 txn w.mode then (putN T w.name q, true)
  else if getsB q.2 txn w.mode then (putN T w.name (q.1, giveN q.2 txn w.mode), true)
  else (⟨aSet T.names w.name (q.1, queueN q.2 txn), aSet T.waits txn w⟩, false)
def askT (T : Tb) (new : Nat) (txn : Int) (w : Wt) : Tb × Bool × Int :=
  if argsOk txn w then
    if (aGet T.waits txn).isSome then (T, false, 10)
    else (let r := askAt T ((aGet T.names w.name).getD (new, noNm)) txn w; (r.1, r.2, 0))
  else (T, false, 1)
def askV (got : Bool) (e : Int) : Value := .tuple #[.bool got, .int .i64 e]
def wtBx (b : Nat) (v : Wt) : Nat × Obj := (b, .cells (wtV v).cells 31 (0, 0))

theorem wt_cells {b : Nat} {v : Wt} (h : w.heap[b]? = some (wtBx b v).2) : w.cell? ⟨b, 0, none⟩ = some (strV v.name) ∧ w.cell? ⟨b, 1, none⟩ = some (.int .i64 v.mode) := ⟨(cell_at h).trans rfl, (cell_at h).trans rfl⟩
theorem wt_load {b : Nat} {v : Wt} (h : w.heap[b]? = some (wtBx b v).2) : (loadVar 31 ⟨b, 0, none⟩).run Tryz.prog w = .ok (wtV v) w :=
  run_loadVarN (cs := [strV v.name, .int .i64 v.mode]) ag31 (by rw [sz31]; rfl) (cells_read (cs := #[strV v.name, .int .i64 v.mode]) h)
theorem names_get {l : List (List UInt8 × (Nat × Nm))} {s : List UInt8} : ((aGet l s).map ptV).getD (.pointer none) = match aGet l s with | some q => .pointer (some ⟨q.1, 0, none⟩) | none => .pointer none := by cases aGet l s <;> rfl
theorem waits_get {l : List (Int × Wt)} {x : Int} : ((aGet l x).map wtV).getD (.agg #[.string ⟨#[]⟩, .int .i64 0]) = wtV ((aGet l x).getD ⟨[], 0⟩) := by cases aGet l x <;> rfl
theorem modes_get {l : List (Int × Int)} {x : Int} : ((aGet l x).map keyI).getD (.int .i64 0) = .int .i64 ((aGet l x).getD 0) := by cases aGet l x <;> rfl
/-- a name's blocks: what its cells tell -/
theorem TbAt.name {s : List UInt8} {gn : Nat} {n : Nm} (h : TbAt W ks F T g w) (hn : aGet T.names s = some (gn, n)) : ∃ bh oh vt vr, w.cell? ⟨gn, 0, none⟩ = some (.map (some bh)) ∧ w.cell? ⟨gn, 1, none⟩ = some vt ∧ w.cell? ⟨gn, 2, none⟩ = some vr ∧ w.heap[gn]? = some (nmO bh vt vr) ∧
    w.heap[bh]? = some oh ∧ MapO keyI keyI n.held oh ∧ Rd w 1 vt n.turns.length (intsV .i64 n.turns) ∧ Rd w 1 vr n.row.length (intsV .i64 n.row) := by
  obtain ⟨hx, G, h1, h2, h3, h4, h5, h6⟩ := h.focus hn
  obtain ⟨bh, oh, vt, vr, hg, hm, hmap, r1, r2, c0, c1, c2⟩ := h1.look (fun p hp => List.mem_append_left G hp) h2
  exact ⟨bh, oh, vt, vr, c0, c1, c2, hg, h2.2 _ hm, hmap, r1, r2⟩
theorem TbAt.would {s : List UInt8} {gn : Nat} {n : Nm} (h : TbAt W ks F T g w) (hn : aGet T.names s = some (gn, n)) (txn m : Int) :
    CallsR Tryz.prog 51 #[.pointer (some ⟨gn, 0, none⟩), .int .i64 txn, .int .i64 m] w fun u w' => u = .int .i64 (wouldN n txn m) ∧ TbAt W ks F T g w' := by
  obtain ⟨hx, G, h1, h2, h3, h4, h5, h6⟩ := h.focus hn
  refine CallsR.mono (would_spec h1 (fun p hp => List.mem_append_left G hp) h2 txn m) ?_
  rintro u w' ⟨rfl, hU⟩
  exact ⟨rfl, h.upd hU⟩
theorem TbAt.goes {s : List UInt8} {gn : Nat} {n : Nm} (h : TbAt W ks F T g w) (hn : aGet T.names s = some (gn, n)) (txn m : Int) :
    CallsR Tryz.prog 52 #[.pointer (some ⟨gn, 0, none⟩), .int .i64 txn, .int .i64 m] w fun u w' => u = .bool (goesB n txn m) ∧ TbAt W ks F T g w' := by
  obtain ⟨hx, G, h1, h2, h3, h4, h5, h6⟩ := h.focus hn
  refine CallsR.mono (goes_spec h1 (fun p hp => List.mem_append_left G hp) h2 txn m) ?_
  rintro u w' ⟨rfl, hU⟩
  exact ⟨rfl, h.upd hU⟩
theorem TbAt.first {s : List UInt8} {gn : Nat} {n : Nm} (h : TbAt W ks F T g w) (hn : aGet T.names s = some (gn, n)) :
    CallsR Tryz.prog 95 #[.pointer (some ⟨gn, 0, none⟩)] w fun u w' => u = .int .i64 (firstN n) ∧ w' = w := by
  obtain ⟨hx, G, h1, h2, h3, h4, h5, h6⟩ := h.focus hn
  exact first_spec h1 (fun p hp => List.mem_append_left G hp) h2
theorem TbAt.leave {s : List UInt8} {gn : Nat} {n : Nm} (h : TbAt W ks F T g w) (hn : aGet T.names s = some (gn, n)) (hl : n.turns.length ≤ 1000000 ∧ n.row.length ≤ 1000000) (txn : Int) :
    CallsR Tryz.prog 69 #[.pointer (some ⟨gn, 0, none⟩), .int .i64 txn] w fun u w' => u = .bool (decide ((outN n.turns txn).length + (outN n.row txn).length < n.turns.length + n.row.length)) ∧ TbAt W ks F (putN T s (gn, leaveN n txn)) g w' := by
  obtain ⟨hx, G, h1, h2, h3, h4, h5, h6⟩ := h.focus hn
  refine CallsR.mono (leave_spec h1 h2 h3 h4 hl txn) ?_
  rintro u w' ⟨rfl, hU, hx', q1, q2, q3⟩
  exact ⟨rfl, h6 w' _ hx' q1 q2 hU q3⟩
/-- who has it, written -/
theorem TbAt.heldSet {s : List UInt8} {gn bh : Nat} {n : Nm} (h : TbAt W ks F T g w) (hn : aGet T.names s = some (gn, n)) (hc : w.cell? ⟨gn, 0, none⟩ = some (.map (some bh))) (k v : Int)
    (hk : ∀ w', TbAt W ks F (putN T s (gn, { n with held := aSet n.held k v })) g w' → K undef w') : (std Tryz.prog).step (sMapUpdate 93 (.map (some bh)) (.int .i64 k) (.int .i64 v)) w K := by
  obtain ⟨hx, G, h1, h2, h3, h4, h5, h6⟩ := h.focus hn
  obtain ⟨bh', oh, vt, vr, ht, hr, rfl, hmap, hrt, hrr⟩ := h1
  have : bh' = bh := by
    have := (cell_at (off := 0) (h2.at_ 0 rfl)).symm.trans hc
    simpa using this
  subst this
  refine st_mapUpdate uHeld keyI_ok h3 h2 1 rfl hmap (h4 (bh', oh) (by simp)) k v ?_
  intro w' o' hm' hU' hO'
  refine hk w' (h6 w' _ ((gn, nmO bh' vt vr) :: (bh', o') :: (ht ++ hr)) ⟨bh', o', vt, vr, ht, hr, rfl, hm', hrt, hrr⟩ hO' hU' fun p hp => ?_)
  simp only [List.mem_cons] at hp h4
  rcases hp with rfl | rfl | hp
  · exact h4 _ (.inl rfl)
  · exact h4 (bh', oh) (.inr (.inl rfl))
  · exact h4 p (.inr (.inr hp))
theorem TbAt.heldDel {s : List UInt8} {gn bh : Nat} {n : Nm} {ty kt' : TypeId} {cs : List Bool} (h : TbAt W ks F T g w) (hn : aGet T.names s = some (gn, n)) (hc : w.cell? ⟨gn, 0, none⟩ = some (.map (some bh))) (k : Int)
    (hk : ∀ w', TbAt W ks F (putN T s (gn, { n with held := aDel n.held k })) g w' → K (.tuple #[]) w') : (std Tryz.prog).step (sBuiltin .delete #[93, kt'] ty cs [.map (some bh), .int .i64 k]) w K := by
  obtain ⟨hx, G, h1, h2, h3, h4, h5, h6⟩ := h.focus hn
  obtain ⟨bh', oh, vt, vr, ht, hr, rfl, hmap, hrt, hrr⟩ := h1
  have : bh' = bh := by
    have := (cell_at (off := 0) (h2.at_ 0 rfl)).symm.trans hc
    simpa using this
  subst this
  refine st_mapDelete uHeld keyI_ok h3 h2 1 rfl hmap (h4 (bh', oh) (by simp)) k ?_
  intro w' o' hm' hU' hO'
  refine hk w' (h6 w' _ ((gn, nmO bh' vt vr) :: (bh', o') :: (ht ++ hr)) ⟨bh', o', vt, vr, ht, hr, rfl, hm', hrt, hrr⟩ hO' hU' fun p hp => ?_)
  simp only [List.mem_cons] at hp h4
  rcases hp with rfl | rfl | hp
  · exact h4 _ (.inl rfl)
  · exact h4 (bh', oh) (.inr (.inl rfl))
  · exact h4 p (.inr (.inr hp))
end
end Go.Proofs.YtakifgecgmdjcaaGreat

/- Locks: Ask. -/
namespace Go.Proofs.YtakifgecgmdjcaaGreat
open Go Xf Go.RowKit
set_option linter.unusedVariables false
set_option linter.unusedSimpArgs false
set_option maxRecDepth 100000

section
variable {W w w' : World} {ks : List Nat} {F G : List (Nat × Obj)} {T : Tb} {g : Nat} {K : Value → World → Prop}
theorem info_int : ∃ i, Tryz.prog.info? 3 = some i ∧ i.zero = some (.int .i64 0) ∧ i.size = 1 ∧ i.bytes = 8 := inf3
/-- one more stands in a row -/
theorem TbAt.pushT {s : List UInt8} {gn : Nat} {n : Nm} {vt : Value} (h : TbAt W ks F T g w) (hn : aGet T.names s = some (gn, n)) (hc : w.cell? ⟨gn, 1, none⟩ = some vt) (hl : n.turns.length ≤ 1000000) (x : Int)
    (hk : ∀ w', TbAt W ks F (putN T s (gn, { n with turns := n.turns ++ [x] })) g w' → K undef w') :
    (std Tryz.prog).step (sBuildSlice 44 1 [(0, .int .i64 x)]) w fun v w => (std Tryz.prog).step (sBuiltin .append #[44, 44] 44 [false, false] [vt, v]) w fun u w => (std Tryz.prog).step (sNil (.pointer (some ⟨gn, 0, none⟩))) w fun a w => (std Tryz.prog).step (sFieldAddr 95 a 1) w fun a w => (std Tryz.prog).step (sStore 44 a u) w K := by
  obtain ⟨hx, G, h1, h2, h3, h4, h5, h6⟩ := h.focus hn
  obtain ⟨bh, oh, vt', vr, ht, hr, rfl, hmap, hrt, hrr⟩ := h1
  have : vt' = vt := by
    have := (cell_at (off := 1) (h2.at_ 0 rfl)).symm.trans hc
    simpa using this
  subst this
  refine st_newRow (fun w => row_int x w) h3 h2 ?_
  intro gr w1 hU1 hO1 hgr
  obtain ⟨inf, e1, e2, e3, e4⟩ := info_int
  have hP : Owns w1 (ht ++ ((gr, .cells #[.int .i64 x] 3 (0, 0)) :: (gn, nmO bh vt' vr) :: (bh, oh) :: (hr ++ G))) := hO1.perm (by
    classical
    refine List.perm_iff_count.2 fun y => ?_
    simp only [List.count_cons, List.count_append]
    omega)
  have hrd : Rd w1 1 (.slice (some ⟨gr, 0, none⟩) 1 1) 1 (intsV .i64 [x]) := ⟨_, 1, rfl, Nat.le_refl _, rfl, fun j u hu => ⟨_, rfl, cells_read (cs := #[.int .i64 x]) (hO1.at_ 0 rfl) j u hu⟩⟩
  have hmx : (1000001 : Nat) ≤ maxLen := by decide
  refine st_append u44 e1 e2 e3 e4 rfl (by omega) hrt hP hU1 (fun p hp => h4 p (by simp [hp])) hrd (intsV_one _ _) (by omega) (by omega) ?_
  intro v2 w2 ht2 hr2 hO2 hU2 hh2
  have hr2 : RowH 3 1 v2 (n.turns ++ [x]).length (intsV .i64 (n.turns ++ [x])) ht2 := by
    rw [List.length_append, List.length_singleton]
    have : intsV .i64 (n.turns ++ [x]) = intsV .i64 n.turns ++ intsV .i64 [x] := by simp [intsV]
    rw [this]; exact hr2
  have hO2 : Owns w2 ((gn, nmO bh vt' vr) :: (gr, .cells #[.int .i64 x] 3 (0, 0)) :: (bh, oh) :: (ht2 ++ (hr ++ G))) := hO2.perm (by
    classical
    refine List.perm_iff_count.2 fun y => ?_
    simp only [List.count_cons, List.count_append]
    omega)
  obtain ⟨A2, n2, rfl⟩ := RowH.sl' hr2
  simp (disch := first | assumption | omega) only [PX, add_mk, Nat.reduceAdd]
  have hgW := h4 _ (List.mem_cons_self ..)
  refine st_storeB sz44 rfl hU2 hO2 0 rfl (by simp) (.inr (Nat.zero_le _)) hgW ?_
  intro w3 hU3 hO3
  refine hk w3 (h6 w3 _ ((gn, nmO bh (.slice A2 (n.turns ++ [x]).length n2) vr) :: (bh, oh) :: (ht2 ++ hr)) ⟨bh, oh, _, vr, ht2, hr, rfl, hmap, hr2, hrr⟩ ?_ hU3 fun p hp => ?_)
  · have := Owns.sub (h := (gn, nmO bh (.slice A2 (n.turns ++ [x]).length n2) vr) :: (gr, .cells #[.int .i64 x] 3 (0, 0)) :: (bh, oh) :: (ht2 ++ (hr ++ G))) hO3 (.cons_cons _ (.cons _ (List.Sublist.refl _)))
    simpa only [List.cons_append, List.append_assoc] using this
  · rcases List.mem_cons.1 hp with rfl | hp
    · exact hgW
    rcases List.mem_cons.1 hp with rfl | hp
    · exact h4 _ (by simp)
    rcases List.mem_append.1 hp with hp | hp
    · exact hh2 p hp
    · exact h4 p (by simp [hp])
theorem TbAt.pushR {s : List UInt8} {gn : Nat} {n : Nm} {vr : Value} (h : TbAt W ks F T g w) (hn : aGet T.names s = some (gn, n)) (hc : w.cell? ⟨gn, 2, none⟩ = some vr) (hl : n.row.length ≤ 1000000) (x : Int)
    (hk : ∀ w', TbAt W ks F (putN T s (gn, { n with row := n.row ++ [x] })) g w' → K undef w') :
    (std Tryz.prog).step (sBuildSlice 44 1 [(0, .int .i64 x)]) w fun v w => (std Tryz.prog).step (sBuiltin .append #[44, 44] 44 [false, false] [vr, v]) w fun u w => (std Tryz.prog).step (sNil (.pointer (some ⟨gn, 0, none⟩))) w fun a w => (std Tryz.prog).step (sFieldAddr 95 a 2) w fun a w => (std Tryz.prog).step (sStore 44 a u) w K := by
  obtain ⟨hx, G, h1, h2, h3, h4, h5, h6⟩ := h.focus hn
  obtain ⟨bh, oh, vt, vr', ht, hr, rfl, hmap, hrt, hrr⟩ := h1
  have : vr' = vr := by
    have := (cell_at (off := 2) (h2.at_ 0 rfl)).symm.trans hc
    simpa using this
  subst this
  refine st_newRow (fun w => row_int x w) h3 h2 ?_
  intro gr w1 hU1 hO1 hgr
  obtain ⟨inf, e1, e2, e3, e4⟩ := info_int
  have hP : Owns w1 (hr ++ ((gr, .cells #[.int .i64 x] 3 (0, 0)) :: (gn, nmO bh vt vr') :: (bh, oh) :: (ht ++ G))) := hO1.perm (by
    classical
    refine List.perm_iff_count.2 fun y => ?_
    simp only [List.count_cons, List.count_append]
    omega)
  have hrd : Rd w1 1 (.slice (some ⟨gr, 0, none⟩) 1 1) 1 (intsV .i64 [x]) := ⟨_, 1, rfl, Nat.le_refl _, rfl, fun j u hu => ⟨_, rfl, cells_read (cs := #[.int .i64 x]) (hO1.at_ 0 rfl) j u hu⟩⟩
  have hmx : (1000001 : Nat) ≤ maxLen := by decide
  refine st_append u44 e1 e2 e3 e4 rfl (by omega) hrr hP hU1 (fun p hp => h4 p (by simp [hp])) hrd (intsV_one _ _) (by omega) (by omega) ?_
  intro v2 w2 ht2 hr2 hO2 hU2 hh2
  have hr2 : RowH 3 1 v2 (n.row ++ [x]).length (intsV .i64 (n.row ++ [x])) ht2 := by
    rw [List.length_append, List.length_singleton]
    have : intsV .i64 (n.row ++ [x]) = intsV .i64 n.row ++ intsV .i64 [x] := by simp [intsV]
    rw [this]; exact hr2
  have hO2 : Owns w2 ((gn, nmO bh vt vr') :: (gr, .cells #[.int .i64 x] 3 (0, 0)) :: (bh, oh) :: (ht ++ (ht2 ++ G))) := hO2.perm (by
    classical
    refine List.perm_iff_count.2 fun y => ?_
    simp only [List.count_cons, List.count_append]
    omega)
  obtain ⟨A2, n2, rfl⟩ := RowH.sl' hr2
  simp (disch := first | assumption | omega) only [PX, add_mk, Nat.reduceAdd]
  have hgW := h4 _ (List.mem_cons_self ..)
  refine st_storeB sz44 rfl hU2 hO2 0 rfl (by simp) (.inr (Nat.zero_le _)) hgW ?_
  intro w3 hU3 hO3
  refine hk w3 (h6 w3 _ ((gn, nmO bh vt (.slice A2 (n.row ++ [x]).length n2)) :: (bh, oh) :: (ht ++ ht2)) ⟨bh, oh, vt, _, ht, ht2, rfl, hmap, hrt, hr2⟩ ?_ hU3 fun p hp => ?_)
  · have := Owns.sub (h := (gn, nmO bh vt (.slice A2 (n.row ++ [x]).length n2)) :: (gr, .cells #[.int .i64 x] 3 (0, 0)) :: (bh, oh) :: (ht ++ (ht2 ++ G))) hO3 (.cons_cons _ (.cons _ (List.Sublist.refl _)))
    simpa only [List.cons_append, List.append_assoc] using this
  · rcases List.mem_cons.1 hp with rfl | hp
    · exact hgW
    rcases List.mem_cons.1 hp with rfl | hp
    · exact h4 _ (by simp)
    rcases List.mem_append.1 hp with hp | hp
    · exact h4 p (by simp [hp])
    · exact hh2 p hp
/-- the end of Ask: it waits -/
theorem Ask_k5 {b : Nat} {v : Wt} {txn : Int} {Q : Value → World → Prop} (h : TbAt W ks (wtBx b v :: F) T g w) (hQ : ∀ w', TbAt W ks (wtBx b v :: F) ⟨T.names, aSet T.waits txn v⟩ g w' → Q (askV false 0) w') :
    lock_Table_Ask_k5 (std Tryz.prog) (.pointer (some ⟨g, 0, none⟩)) (.int .i64 txn) (.pointer (some ⟨b, 0, none⟩)) w Q := by
  unfold lock_Table_Ask_k5
  have h1 := h.upd (Upd.drew w [])
  obtain ⟨bn, bw, on, ow, -, c1, -, -, -, -, hg⟩ := h1.look
  let S : World → Prop := fun w' => w'.heap[g]? = some (tbO bn bw) ∧ w'.heap[b]? = some (wtBx b v).2
  have hS : S w.drew := ⟨hg, h1.at_ (List.mem_cons_self ..)⟩
  have hne : ∃ w', S w' := ⟨_, hS⟩
  have e1 : ∀ w', S w' → w'.cell? ⟨g, 1, none⟩ = some (.map (some bw)) := fun w' hs => (cell_at hs.1).trans rfl
  refine st_draw S hS ?_
  simp (disch := first | exact hne | assumption | omega) only [SX, SLX, add_mk, Nat.reduceAdd]
  rw [stepS_run hne fun w' hs => run_sLoad (wt_load hs.2)]
  refine st_waitsSet h1 c1 txn v ?_
  intro w2 h2
  refine st_keepT (fun _ => True) trivial ?_
  exact hQ w2 h2
end
end Go.Proofs.YtakifgecgmdjcaaGreat

/- Locks: Ask, put together. -/
namespace Go.Proofs.YtakifgecgmdjcaaGreat
open Go Xf Go.RowKit
set_option linter.unusedVariables false
set_option linter.unusedSimpArgs false
set_option maxRecDepth 100000

section
variable {W w w' : World} {ks : List Nat} {F G : List (Nat × Obj)} {T : Tb} {g : Nat} {K : Value → World → Prop}
def smallN (n : Nm) : Prop := n.turns.length ≤ 1000000 ∧ n.row.length ≤ 1000000
theorem Ask_k4 {b gn : Nat} {v : Wt} {n : Nm} {txn : Int} {Q : Value → World → Prop} (h : TbAt W ks (wtBx b v :: F) T g w) (hn : aGet T.names v.name = some (gn, n)) (hl : smallN n)
    (hQ : ∀ w', TbAt W ks (wtBx b v :: F) ⟨aSet T.names v.name (gn, queueN n txn), aSet T.waits txn v⟩ g w' → Q (askV false 0) w') :
    lock_Table_Ask_k4 (std Tryz.prog) (.pointer (some ⟨g, 0, none⟩)) (.int .i64 txn) (.pointer (some ⟨b, 0, none⟩)) (.pointer (some ⟨gn, 0, none⟩)) (.bool (aGet n.held txn).isSome) w Q := by
  unfold lock_Table_Ask_k4
  obtain ⟨bh, oh, vt, vr, c0, c1, c2, -⟩ := h.name hn
  simp (disch := first | assumption | omega) only [PX, LX, add_mk, Nat.reduceAdd]
  rw [bool_var]
  refine ⟨fun his => ?_, fun his => ?_⟩
  · refine h.pushT hn c1 hl.1 txn ?_
    intro w1 h1
    refine Ask_k5 h1 fun w' h' => hQ w' ?_
    unfold queueN
    rw [if_pos his]; exact h'
  · refine h.pushR hn c2 hl.2 txn ?_
    intro w1 h1
    refine Ask_k5 h1 fun w' h' => hQ w' ?_
    unfold queueN
    rw [if_neg (by rw [his]; exact Bool.false_ne_true)]; exact h'
theorem Ask_gets {b gn : Nat} {v : Wt} {n : Nm} {txn m : Int} {Q : Value → World → Prop} (h : TbAt W ks (wtBx b v :: F) T g w) (hn : aGet T.names v.name = some (gn, n))
    (hQ : ∀ w', TbAt W ks (wtBx b v :: F) (putN T v.name (gn, { n with held := aSet n.held txn m })) g w' → Q (askV true 0) w') :
    (std Tryz.prog).step (sNil (.pointer (some ⟨gn, 0, none⟩))) w fun a w => (std Tryz.prog).step (sFieldAddr 95 a 0) w fun a w => (std Tryz.prog).step (sLoad 93 a) w fun u w => (std Tryz.prog).step (sMapUpdate 93 u (.int .i64 txn) (.int .i64 m)) w fun _ w => Q (.tuple #[.bool true, .int .i64 0]) w := by
  obtain ⟨bh, oh, vt, vr, c0, c1, c2, -⟩ := h.name hn
  simp (disch := first | assumption | omega) only [PX, LX, add_mk, Nat.reduceAdd]
  exact h.heldSet hn c0 txn m hQ
theorem Ask_k3 {b gn : Nat} {v : Wt} {n : Nm} {txn : Int} {Q : Value → World → Prop} (h : TbAt W ks (wtBx b v :: F) T g w) (hn : aGet T.names v.name = some (gn, n)) (hl : smallN n) (hc : covB n txn v.mode = false)
    (hQ : ∀ w', TbAt W ks (wtBx b v :: F) (askAt T (gn, n) txn v).1 g w' → Q (askV (askAt T (gn, n) txn v).2 0) w') :
    lock_Table_Ask_k3 (std Tryz.prog) (.pointer (some ⟨g, 0, none⟩)) (.int .i64 txn) (.pointer (some ⟨b, 0, none⟩)) (.pointer (some ⟨gn, 0, none⟩)) (.bool (aGet n.held txn).isSome) w Q := by
  unfold lock_Table_Ask_k3
  unfold askAt at hQ
  rw [if_neg (by rw [hc]; exact Bool.false_ne_true)] at hQ
  obtain ⟨b0, b1⟩ := wt_cells (h.at_ (List.mem_cons_self ..))
  simp (disch := first | assumption | omega) only [PX, LX, add_mk, Nat.reduceAdd]
  refine st_call (h.would hn txn v.mode) ?_
  rintro _ w1 ⟨rfl, h1⟩
  have h1 := h1.upd (Upd.drew w1 [])
  refine st_draw (fun _ => True) trivial ?_
  refine st_call (h1.goes hn txn _) ?_
  rintro _ w2 ⟨rfl, h2⟩
  obtain ⟨bh, oh, vt, vr, c0, c1, c2, hg, -, -, r1, r2⟩ := h2.name hn
  obtain ⟨A1, n1, rfl, -⟩ := r1
  obtain ⟨A2, n2, rfl, -⟩ := r2
  let S : World → Prop := fun w' => w'.heap[gn]? = some (nmO bh (.slice A1 n.turns.length n1) (.slice A2 n.row.length n2))
  have hS : S w2 := hg
  have hne : ∃ w', S w' := ⟨_, hS⟩
  have e1 : ∀ w', S w' → w'.cell? ⟨gn, 1, none⟩ = some (.slice A1 n.turns.length n1) := fun w' hs => (cell_at hs).trans rfl
  have e2 : ∀ w', S w' → w'.cell? ⟨gn, 2, none⟩ = some (.slice A2 n.row.length n2) := fun w' hs => (cell_at hs).trans rfl
  refine st_keepT S hS ?_
  rw [bool_var]
  refine ⟨fun hgo => ?_, fun hgo => ?_⟩
  · rw [bool_var]
    refine ⟨fun his => ?_, fun his => ?_⟩
    · refine Ask_gets h2 hn fun w' h' => ?_
      have : getsB n txn v.mode = true := by unfold getsB; rw [hgo, his]; rfl
      rw [if_pos this] at hQ
      exact hQ w' h'
    · simp (disch := first | exact hne | assumption | omega) only [SX, SLX, add_mk, Nat.reduceAdd]
      rw [w64 (by have := hl.1; have := hl.2; omega) (by have := hl.1; have := hl.2; omega)]
      rw [bool_dec]
      refine ⟨fun h0 => ?_, fun h0 => ?_⟩
      · refine Ask_gets h2 hn fun w' h' => ?_
        have : getsB n txn v.mode = true := by unfold getsB; rw [hgo, his, decide_eq_true (by omega)]; rfl
        rw [if_pos this] at hQ
        exact hQ w' h'
      · refine Ask_k4 h2 hn hl fun w' h' => ?_
        have : getsB n txn v.mode = false := by unfold getsB; rw [hgo, his, decide_eq_false (by omega)]; rfl
        rw [if_neg (by rw [this]; exact Bool.false_ne_true)] at hQ
        exact hQ w' h'
  · refine Ask_k4 h2 hn hl fun w' h' => ?_
    have : getsB n txn v.mode = false := by unfold getsB; rw [hgo]; rfl
    rw [if_neg (by rw [this]; exact Bool.false_ne_true)] at hQ
    exact hQ w' h'
theorem Ask_k2 {b gn : Nat} {v : Wt} {n : Nm} {txn : Int} {Q : Value → World → Prop} (h : TbAt W ks (wtBx b v :: F) T g w) (hn : aGet T.names v.name = some (gn, n)) (hl : smallN n)
    (hQ : ∀ w', TbAt W ks (wtBx b v :: F) (askAt T (gn, n) txn v).1 g w' → Q (askV (askAt T (gn, n) txn v).2 0) w') :
    lock_Table_Ask_k2 (std Tryz.prog) (.pointer (some ⟨g, 0, none⟩)) (.int .i64 txn) (.pointer (some ⟨b, 0, none⟩)) (.pointer (some ⟨gn, 0, none⟩)) w Q := by
  unfold lock_Table_Ask_k2
  obtain ⟨b0, b1⟩ := wt_cells (h.at_ (List.mem_cons_self ..))
  obtain ⟨bh, oh, vt, vr, c0, c1, c2, hg, hm, hmap, r1, r2⟩ := h.name hn
  simp (disch := first | assumption | omega) only [PX, LX, add_mk, Nat.reduceAdd]
  rw [step_run (run_lookup uHeld keyI_ok ze29 hm hmap txn true)]
  rw [if_pos rfl, modes_get]
  simp (disch := first | assumption | omega) only [PX, LX, add_mk, Nat.reduceAdd]
  rw [bool_var]
  refine ⟨fun his => ?_, fun his => ?_⟩
  · obtain ⟨has, hh⟩ := Option.isSome_iff_exists.1 his
    rw [hh, Option.getD_some]
    refine st_call (Covers_spec w has v.mode) ?_
    rintro _ w1 ⟨rfl, hU1⟩
    have h1 := h.upd hU1
    rw [bool_var]
    have hcov : covB n txn v.mode = cov (sureN has) (sureN v.mode) := by unfold covB; rw [hh]
    refine ⟨fun hc => ?_, fun hc => ?_⟩
    · have : covB n txn v.mode = true := by rw [hcov]; exact hc
      unfold askAt at hQ
      rw [if_pos this] at hQ
      refine hQ w1 ?_
      have e : putN T v.name (gn, n) = T := by unfold putN; rw [aSet_same hn]
      rw [e]; exact h1
    · exact hh ▸ Ask_k3 h1 hn hl (by rw [hcov]; exact hc) hQ
  · have hc : covB n txn v.mode = false := by
      unfold covB
      cases hh : aGet n.held txn with
      | none => rfl
      | some x => rw [hh] at his; cases his
    exact Ask_k3 h hn hl hc hQ
end
end Go.Proofs.YtakifgecgmdjcaaGreat

/- Locks: Ask, whole. -/
namespace Go.Proofs.YtakifgecgmdjcaaGreat
open Go Xf Go.RowKit
set_option linter.unusedVariables false
set_option linter.unusedSimpArgs false
set_option maxRecDepth 100000

section
variable {W w w' : World} {ks : List Nat} {F G : List (Nat × Obj)} {T : Tb} {g : Nat} {K : Value → World → Prop}
theorem st_tmakeMap {t : TypeId} (h : TbAt W ks F T g w) (hk : ∀ b w', TbAt W ks ((b, .map #[] 0) :: F) T g w' → W.heap.size ≤ b → K (.map (some b)) w') : (std Tryz.prog).step (sMakeMap t none) w K := by
  have hrun : (sMakeMap t none).run Tryz.prog w = .ok (.value (.map (some w.heap.size))) (w.alloc (.map #[] 0)) := by
    unfold sMakeMap
    rw [run_sV]
    simp [Instr.makeMap, newObj, Sem.run_bind, Sem.run]
  rw [step_run hrun]
  exact hk _ _ (h.add _).1 (h.add (.map #[] 0)).2
theorem ze_want : (Tryz.prog.info? 31).bind (·.zero) = some (.agg #[.string ⟨#[]⟩, .int .i64 0]) := ze31
theorem Ask_spec (h : TbAt W ks F T g w) (txn : Int) (v : Wt) (hsm : ∀ q, aGet T.names v.name = some q → smallN q.2) (hlen : v.name.length ≤ 1000000) :
    CallsR Tryz.prog 21 #[.pointer (some ⟨g, 0, none⟩), .int .i64 txn, wtV v] w fun u w' => ∃ new, u = askV (askT T new txn v).2.1 (askT T new txn v).2.2 ∧ TbAt W ks F (askT T new txn v).1 g w' := by
  apply lock_Table_Ask_sound
  unfold lock_Table_Ask_x
  refine st_tbox h ?_
  intro b w1 h1 hb
  have h1 : TbAt W ks (wtBx b v :: F) T g w1 := h1
  have fin : ∀ {w' : World} {T' : Tb}, TbAt W ks (wtBx b v :: F) T' g w' → TbAt W ks F T' g w' := fun hh => hh.weak (List.sublist_cons_self ..)
  obtain ⟨b0, b1⟩ := wt_cells (h1.at_ (List.mem_cons_self ..))
  have bad : ∀ w' : World, TbAt W ks (wtBx b v :: F) T g w' → ¬ argsOk txn v → (fun u w' => ∃ new, u = askV (askT T new txn v).2.1 (askT T new txn v).2.2 ∧ TbAt W ks F (askT T new txn v).1 g w') (.tuple #[.bool false, .int .i64 1]) w' := fun w' hh hno => ⟨0, by unfold askT; rw [if_neg hno]; exact ⟨rfl, fin hh⟩⟩
  unfold lock_Table_Ask_k1
  simp (disch := first | assumption | omega) only [PX, BX, LX, add_mk, Nat.reduceAdd, size_mk]
  refine ⟨fun hlt => bad _ h1 fun hok => ?_, fun h1t => ⟨fun hlt => bad _ h1 fun hok => ?_, fun h1n => ⟨fun hlt => bad _ h1 fun hok => ?_, fun h2n => ?_⟩⟩⟩
  · unfold argsOk at hok; omega
  · unfold argsOk at hok; omega
  · unfold argsOk at hok; omega
  refine st_call (Known_spec w1 v.mode) ?_
  rintro _ w2 ⟨rfl, rfl⟩
  simp (disch := first | assumption | omega) only [PX, BX, LX, add_mk, Nat.reduceAdd]
  refine ⟨fun hkn => ⟨fun h0 => bad _ h1 fun hok => ?_, fun h0 => ?_⟩, fun hkn => bad _ h1 fun hok => ?_⟩
  · unfold argsOk at hok; omega
  rotate_left
  · unfold argsOk at hok; omega
  have hok : argsOk txn v := by unfold argsOk; omega
  have hA : ∀ new, (aGet T.waits txn).isSome = true → askT T new txn v = (T, false, 10) := fun new hh => by unfold askT; rw [if_pos hok, if_pos hh]
  have hB : ∀ new, (aGet T.waits txn).isSome = false → askT T new txn v = ((askAt T ((aGet T.names v.name).getD (new, noNm)) txn v).1, (askAt T ((aGet T.names v.name).getD (new, noNm)) txn v).2, 0) := fun new hh => by unfold askT; rw [if_pos hok, if_neg (by rw [hh]; exact Bool.false_ne_true)]
  obtain ⟨bn, bw, on, ow, c0, c1, -, -, hw, hwm, -⟩ := h1.look
  simp (disch := first | assumption | omega) only [PX, BX, LX, add_mk, Nat.reduceAdd]
  rw [step_run (run_lookup uWaits keyI_ok ze_want hw hwm txn true), if_pos rfl, waits_get]
  simp (disch := first | assumption | omega) only [PX]
  refine st_talloc ze_want h1 ?_
  intro b2 w3 h3 hb2
  refine st_tstoreN (vs := [strV ((aGet T.waits txn).getD ⟨[], 0⟩).name, .int .i64 ((aGet T.waits txn).getD ⟨[], 0⟩).mode]) (by rw [sz31]; rfl) h3 rfl (by simp [Value.oneCell']) (.inr hb2) ?_
  intro w4 h4
  have h4 : TbAt W ks (wtBx b v :: F) T g w4 := h4.weak (List.sublist_cons_self ..)
  rw [bool_var]
  refine ⟨fun his => ?_, fun his => ?_⟩
  · refine ⟨0, ?_⟩
    rw [hA 0 his]; exact ⟨rfl, fin h4⟩
  have h5 := h4.upd (Upd.drew w4 [])
  obtain ⟨bn, bw, on, ow, c0, c1, hn, hnm, hw, hwm, hg⟩ := h5.look
  let S : World → Prop := fun w' => w'.heap[g]? = some (tbO bn bw) ∧ w'.heap[b]? = some (wtBx b v).2
  have hS : S w4.drew := ⟨hg, h5.at_ (List.mem_cons_self ..)⟩
  have hne : ∃ w', S w' := ⟨_, hS⟩
  have e0 : ∀ w', S w' → w'.cell? ⟨g, 0, none⟩ = some (.map (some bn)) := fun w' hs => (cell_at hs.1).trans rfl
  have e1 : ∀ w', S w' → w'.cell? ⟨b, 0, none⟩ = some (strV v.name) := fun w' hs => (wt_cells hs.2).1
  refine st_draw S hS ?_
  simp (disch := first | exact hne | assumption | omega) only [SX, SLX, add_mk, Nat.reduceAdd]
  rw [step_run (run_lookup (ve := ptV) (z := .pointer none) uNames strV_ok ze92 hn hnm v.name false), if_neg Bool.false_ne_true, names_get]
  refine st_keepT (fun _ => True) trivial ?_
  cases hq : aGet T.names v.name with
  | some q =>
    obtain ⟨gn, n⟩ := q
    simp (disch := first | assumption | omega) only [PX, BX]
    refine Ask_k2 h5 hq (hsm _ hq) ?_
    intro w' h'
    refine ⟨gn, ?_⟩
    rw [hB gn his, hq]
    exact ⟨rfl, fin h'⟩
  | none =>
    simp (disch := first | assumption | omega) only [PX, BX]
    refine st_tmakeMap h5 ?_
    intro bh w6 h6 hbh
    rw [step_run (build_nm _ _)]
    refine st_tbox h6 ?_
    intro gn w7 h7 hgn
    have h7 := h7.upd (Upd.drew w7 [])
    obtain ⟨bn, bw, on, ow, c0, c1, hn, hnm, hw, hwm, hg⟩ := h7.look
    let S : World → Prop := fun w' => w'.heap[g]? = some (tbO bn bw) ∧ w'.heap[b]? = some (wtBx b v).2
    have hS : S w7.drew := ⟨hg, h7.at_ (List.mem_cons_of_mem _ (List.mem_cons_of_mem _ (List.mem_cons_self ..)))⟩
    have hne : ∃ w', S w' := ⟨_, hS⟩
    have e0 : ∀ w', S w' → w'.cell? ⟨g, 0, none⟩ = some (.map (some bn)) := fun w' hs => (cell_at hs.1).trans rfl
    have e1 : ∀ w', S w' → w'.cell? ⟨b, 0, none⟩ = some (strV v.name) := fun w' hs => (wt_cells hs.2).1
    refine st_draw S hS ?_
    simp (disch := first | exact hne | assumption | omega) only [SX, SLX, add_mk, Nat.reduceAdd]
    refine st_namesNew h7 c0 hq hgn hbh ?_
    intro w8 h8
    refine st_keepT (fun _ => True) trivial ?_
    refine Ask_k2 h8 (gn := gn) (n := noNm) (by rw [putN, aGet_aSet, if_pos rfl]) ⟨by simp [noNm], by simp [noNm]⟩ ?_
    intro w' h'
    have key : ∀ x, askAt (putN T v.name (gn, noNm)) x txn v = askAt T x txn v := fun x => by
      unfold askAt putN
      simp only [aSet_aSet]
    rw [key] at h'
    refine ⟨gn, ?_⟩
    rw [hB gn his, hq, key]
    exact ⟨rfl, fin h'⟩
end
end Go.Proofs.YtakifgecgmdjcaaGreat

/- Locks: who gets what: pass. -/
namespace Go.Proofs.YtakifgecgmdjcaaGreat
open Go Xf Go.RowKit
set_option linter.unusedVariables false
set_option linter.unusedSimpArgs false
set_option maxRecDepth 100000

abbrev Gr := Int × Wt
def grV (p : Gr) : List Value := [.int .i64 p.1, strV p.2.name, .int .i64 p.2.mode]
def grsV (l : List Gr) : List Value := l.flatMap grV
theorem grsV_len (l : List Gr) : (grsV l).length = l.length * 3 := by
  induction l with
  | nil => rfl
  | cons p l ih => simp only [grsV, List.flatMap_cons, List.length_append, List.length_cons] at ih ⊢; simp only [grV, List.length_cons, List.length_nil]; omega
theorem grsV_one (l : List Gr) : ∀ y ∈ grsV l, y.oneCell' = true := by
  intro y hy
  obtain ⟨p, -, hy⟩ := List.mem_flatMap.1 hy
  simp only [grV, List.mem_cons, List.not_mem_nil, or_false] at hy
  rcases hy with rfl | rfl | rfl <;> rfl
def GrAt (W : World) (ks : List Nat) (F : List (Nat × Obj)) (gs : List Gr) (bl : Nat) (T : Tb) (g : Nat) (w : World) : Prop :=
  ∃ v hl, RowH 53 3 v gs.length (grsV gs) hl ∧ TbAt W ks ((bl, .cells #[v] 50 (0, 0)) :: (hl ++ F)) T g w ∧ (∀ p ∈ hl, p.1 ∈ ks ∨ W.heap.size ≤ p.1) ∧ W.heap.size ≤ bl
def toldV (b : Nat) : Value := .func (.func 71) #[] #[.pointer (some ⟨b, 0, none⟩)]
theorem mk_told (b : Nat) (w : World) : (sMakeFunc (.func 71) [] [.pointer (some ⟨b, 0, none⟩)]).run Tryz.prog w = .ok (.value (toldV b)) w := by kernel_rfl
theorem call_told (b : Nat) (x : Value) (w : World) : (sCallV (toldV b) [x]).run Tryz.prog w = .ok (.enter 71 #[x, .pointer (some ⟨b, 0, none⟩)]) w := by kernel_rfl
theorem row_gr (p : Gr) (w : World) : (sBuildSlice 50 1 [(0, .agg (grV p).toArray)]).run Tryz.prog w = .ok (.value (.slice (some ⟨w.heap.size, 0, none⟩) 1 1)) (w.alloc (.cells (grV p).toArray 53)) := by kernel_rfl
theorem build_gr (x : Int) (v : Wt) (w : World) : (sBuild 53 [(0, .int .i64 x), (1, wtV v)]).run Tryz.prog w = .ok (.value (.agg (grV (x, v)).toArray)) w := by kernel_rfl
theorem info_gr : ∃ i, Tryz.prog.info? 53 = some i ∧ i.zero = some (.agg #[.int .i64 0, .string ⟨#[]⟩, .int .i64 0]) ∧ i.size = 3 ∧ i.bytes = 32 := inf53

section
variable {W w w' : World} {ks : List Nat} {F G : List (Nat × Obj)} {T : Tb} {g : Nat} {K : Value → World → Prop}
theorem told_spec {gs : List Gr} {bl : Nat} (h : GrAt W ks F gs bl T g w) (hl : gs.length ≤ 1000000) (p : Gr) : CallsR Tryz.prog 71 #[.agg (grV p).toArray, .pointer (some ⟨bl, 0, none⟩)] w fun u w' => u = .tuple #[] ∧ GrAt W ks F (gs ++ [p]) bl T g w' := by
  obtain ⟨v, hl', hr, ⟨hU, hh, hT, hO, hm⟩, hm2, hbl⟩ := h
  apply lock_Table_gone_1_sound
  unfold lock_Table_gone_1_x
  refine st_box hU hO ?_
  intro b w1 hU1 hO1 hb
  have hO1 : Owns w1 ((b, .cells (grV p).toArray 53 (0, 0)) :: (hh ++ (bl, .cells #[v] 50 (0, 0)) :: (hl' ++ F))) := hO1
  obtain ⟨A1, n1, rfl⟩ := RowH.sl' hr
  have hcell : w1.cell? ⟨bl, 0, none⟩ = some (.slice A1 gs.length n1) := (cell_at (hO1.2 (bl, .cells #[.slice A1 gs.length n1] 50 (0, 0)) (by simp))).trans rfl
  refine st_load ag50 hcell ?_
  rw [step_run (run_sLoad (run_loadVarN ag53 (cs := grV p) (by rw [sz53]; rfl) (cells_read (cs := (grV p).toArray) (hO1.at_ 0 rfl))))]
  refine st_newRow (fun w => row_gr p w) hU1 hO1 ?_
  intro gr w2 hU2 hO2 hgr
  obtain ⟨inf, e1, e2, e3, e4⟩ := info_gr
  have hP : Owns w2 (hl' ++ ((gr, .cells (grV p).toArray 53 (0, 0)) :: (b, .cells (grV p).toArray 53 (0, 0)) :: (bl, .cells #[.slice A1 gs.length n1] 50 (0, 0)) :: (hh ++ F))) := hO2.perm (by
    classical
    refine List.perm_iff_count.2 fun y => ?_
    simp only [List.count_cons, List.count_append]
    omega)
  have hrd : Rd w2 3 (.slice (some ⟨gr, 0, none⟩) 1 1) 1 (grsV [p]) := ⟨_, 1, rfl, Nat.le_refl _, grsV_len _, fun j u hu => ⟨_, rfl, cells_read (cs := (grV p).toArray) (hO2.at_ 0 rfl) j u (by simpa [grsV] using hu)⟩⟩
  have hmx : (1000001 : Nat) ≤ maxLen := by decide
  refine st_append u50 e1 e2 e3 e4 rfl (by omega) hr hP hU2 hm2 hrd (grsV_one _) (by omega) (by omega) ?_
  intro v3 w3 h3 hr3 hO3 hU3 hm3
  have hr3 : RowH 53 3 v3 (gs ++ [p]).length (grsV (gs ++ [p])) h3 := by
    rw [List.length_append, List.length_singleton]
    have : grsV (gs ++ [p]) = grsV gs ++ grsV [p] := by simp [grsV]
    rw [this]; exact hr3
  have hO3 : Owns w3 ((bl, .cells #[.slice A1 gs.length n1] 50 (0, 0)) :: (gr, .cells (grV p).toArray 53 (0, 0)) :: (b, .cells (grV p).toArray 53 (0, 0)) :: (h3 ++ (hh ++ F))) := hO3.perm (by
    classical
    refine List.perm_iff_count.2 fun y => ?_
    simp only [List.count_cons, List.count_append]
    omega)
  obtain ⟨A3, n3, rfl⟩ := RowH.sl' hr3
  refine st_storeB sz50 rfl hU3 hO3 0 rfl (by simp) (.inr (Nat.zero_le _)) (.inr hbl) ?_
  intro w4 hU4 hO4
  have hO4 : Owns w4 ((bl, .cells #[.slice A3 (gs ++ [p]).length n3] 50 (0, 0)) :: (gr, .cells (grV p).toArray 53 (0, 0)) :: (b, .cells (grV p).toArray 53 (0, 0)) :: (h3 ++ (hh ++ F))) := hO4
  refine ⟨rfl, _, h3, hr3, ⟨hU4, hh, hT, ?_, hm⟩, hm3, hbl⟩
  refine (hO4.sub (.cons_cons _ (.cons _ (.cons _ (List.Sublist.refl _))))).perm ?_
  classical
  refine List.perm_iff_count.2 fun y => ?_
  simp only [List.count_cons, List.count_append]
  omega

/-- who goes in, one behind the other -/
def passN : Nat → Nm → List (Int × Wt) → Nm × List (Int × Wt) × List Gr
  | 0, n, ws => (n, ws, [])
  | k + 1, n, ws =>
    if firstN n = 0 then (n, ws, []) else
    if goesB n (firstN n) (wouldN n (firstN n) ((aGet ws (firstN n)).getD ⟨[], 0⟩).mode) then
      (let r := passN k { leaveN n (firstN n) with held := aSet n.held (firstN n) (wouldN n (firstN n) ((aGet ws (firstN n)).getD ⟨[], 0⟩).mode) } (aDel ws (firstN n))
       (r.1, r.2.1, (firstN n, (aGet ws (firstN n)).getD ⟨[], 0⟩) :: r.2.2))
    else (n, ws, [])
def passT (T : Tb) (s : List UInt8) (q : Nat × Nm) : Tb × List Gr :=
  let r := passN (q.2.turns.length + q.2.row.length) q.2 T.waits
  (⟨if r.1.held.length = 0 then aDel T.names s else aSet T.names s (q.1, r.1), r.2.1⟩, r.2.2)
theorem firstN_mem {n : Nm} (h : firstN n ≠ 0) : firstN n ∈ n.turns ∨ firstN n ∈ n.row := by
  unfold firstN at h ⊢
  cases ht : n.turns with
  | cons x l => left; exact List.mem_cons_self ..
  | nil =>
    cases hr : n.row with
    | cons x l => right; exact List.mem_cons_self ..
    | nil => rw [ht, hr] at h; exact absurd rfl h
theorem outN_lt {l : List Int} {x : Int} (h : x ∈ l) : (outN l x).length < l.length := by
  unfold outN
  rcases Nat.lt_or_ge (l.filter fun y => !decide (y = x)).length l.length with hlt | hge
  · exact hlt
  · have := List.length_filter_le (fun y => !decide (y = x)) l
    have he : (l.filter fun y => !decide (y = x)).length = l.length := by omega
    rw [List.length_filter_eq_length_iff] at he
    have := he x h
    simp at this
theorem leaveN_lt {n : Nm} (h : firstN n ≠ 0) : (outN n.turns (firstN n)).length + (outN n.row (firstN n)).length < n.turns.length + n.row.length := by
  have h1 := outN_le n.turns (firstN n)
  have h2 := outN_le n.row (firstN n)
  rcases firstN_mem h with hm | hm
  · have := outN_lt hm; omega
  · have := outN_lt hm; omega
end
end Go.Proofs.YtakifgecgmdjcaaGreat

/- Locks: pass. -/
namespace Go.Proofs.YtakifgecgmdjcaaGreat
open Go Xf Go.RowKit
set_option linter.unusedVariables false
set_option linter.unusedSimpArgs false
set_option maxRecDepth 100000

section
variable {W w w' : World} {ks : List Nat} {F G : List (Nat × Obj)} {T : Tb} {g : Nat} {K : Value → World → Prop}
theorem putN_putN (T : Tb) (s : List UInt8) (q q' : Nat × Nm) : putN (putN T s q) s q' = putN T s q' := by
  unfold putN; simp only [aSet_aSet]
theorem get_putN (T : Tb) (s : List UInt8) (q : Nat × Nm) : aGet (putN T s q).names s = some q := by
  rw [putN, aGet_aSet, if_pos rfl]
theorem passN_go {k : Nat} {n : Nm} {ws : List (Int × Wt)} (hx : firstN n ≠ 0) (hgo : goesB n (firstN n) (wouldN n (firstN n) ((aGet ws (firstN n)).getD ⟨[], 0⟩).mode) = true) :
    passN (k + 1) n ws = (let r := passN k { leaveN n (firstN n) with held := aSet n.held (firstN n) (wouldN n (firstN n) ((aGet ws (firstN n)).getD ⟨[], 0⟩).mode) } (aDel ws (firstN n)); (r.1, r.2.1, (firstN n, (aGet ws (firstN n)).getD ⟨[], 0⟩) :: r.2.2)) := by
  conv => lhs; unfold passN
  rw [if_neg hx, if_pos hgo]
/-- the end of pass -/
theorem pass_k1 {gs : List Gr} {bl gn : Nat} {s : List UInt8} {n : Nm} {told : Value} (h : GrAt W ks F gs bl T g w) (hn : aGet T.names s = some (gn, n)) :
    lock_Table_pass_k1 (std Tryz.prog) (.pointer (some ⟨g, 0, none⟩)) (strV s) (.pointer (some ⟨gn, 0, none⟩)) w fun u w' => u = .tuple #[] ∧ GrAt W ks F gs bl ⟨if n.held.length = 0 then aDel T.names s else T.names, T.waits⟩ g w' := by
  obtain ⟨v, hl, hr, hT, hm2, hbl⟩ := h
  unfold lock_Table_pass_k1
  obtain ⟨bh, oh, vt, vr, c0, c1, c2, hg, hm, hmap, r1, r2⟩ := hT.name hn
  simp (disch := first | assumption | omega) only [PX, LX, add_mk, Nat.reduceAdd]
  rw [st_mapLen uHeld hm hmap]
  simp (disch := first | assumption | omega) only [PX, BX]
  refine ⟨fun h0 => ?_, fun h0 => ?_⟩
  · rw [if_pos (by omega)]
    obtain ⟨bn, bw, on, ow, d0, d1, -⟩ := hT.look
    simp (disch := first | assumption | omega) only [PX, LX, add_mk, Nat.reduceAdd]
    refine st_namesDel hT d0 hn ?_
    intro w1 h1
    exact ⟨trivial, v, hl, hr, h1, hm2, hbl⟩
  · rw [if_neg (by omega)]
    exact ⟨trivial, v, hl, hr, hT, hm2, hbl⟩
theorem pass_spec {gs : List Gr} {bl gn : Nat} {s : List UInt8} {n0 : Nm} (h : GrAt W ks F gs bl T g w) (hn : aGet T.names s = some (gn, n0)) (hsm : smallN n0) (hgs : gs.length + (n0.turns.length + n0.row.length) ≤ 1000000) :
    CallsR Tryz.prog 70 #[.pointer (some ⟨g, 0, none⟩), strV s, toldV bl] w fun u w' => u = .tuple #[] ∧ GrAt W ks F (gs ++ (passT T s (gn, n0)).2) bl (passT T s (gn, n0)).1 g w' := by
  apply lock_Table_pass_sound
  unfold lock_Table_pass_x
  have h' := h
  obtain ⟨v, hl, hr, hT, hm2, hbl⟩ := h
  obtain ⟨bn, bw, on, ow, d0, d1, hn1, hn2, -⟩ := hT.look
  simp (disch := first | assumption | omega) only [PX, LX, add_mk, Nat.reduceAdd]
  rw [step_run (run_lookup (ve := ptV) (z := .pointer none) uNames strV_ok ze92 hn1 hn2 s false), if_neg Bool.false_ne_true, names_get, hn]
  refine st_call (hT.first hn) ?_
  rintro _ w1 ⟨rfl, rfl⟩
  let L : Nat := n0.turns.length + n0.row.length
  let I : Nat → List Value → World → Prop := fun k vs w' => ∃ n ws pre, GrAt W ks F (gs ++ pre) bl ⟨aSet T.names s (gn, n), ws⟩ g w' ∧ vs.getD 0 undef = .int .i64 (firstN n) ∧ n.turns.length + n.row.length ≤ k ∧ pre.length + k ≤ L ∧ smallN n ∧
    passN L n0 T.waits = ((passN k n ws).1, (passN k n ws).2.1, pre ++ (passN k n ws).2.2)
  have hI0 : I L [.int .i64 (firstN n0)] w1 := ⟨n0, T.waits, [], by rw [List.append_nil, aSet_same hn]; exact h', rfl, Nat.le_refl _, by simp, hsm, rfl⟩
  have fin : ∀ {w' : World} {n : Nm} {ws : List (Int × Wt)} {pre : List Gr}, GrAt W ks F (gs ++ pre) bl ⟨aSet T.names s (gn, n), ws⟩ g w' → passN L n0 T.waits = (n, ws, pre) →
      lock_Table_pass_k1 (std Tryz.prog) (.pointer (some ⟨g, 0, none⟩)) (strV s) (.pointer (some ⟨gn, 0, none⟩)) w' fun u w' => u = .tuple #[] ∧ GrAt W ks F (gs ++ (passT T s (gn, n0)).2) bl (passT T s (gn, n0)).1 g w' := fun {w'} {n} {ws} {pre} hh hp => by
    have := pass_k1 (told := undef) hh (s := s) (gn := gn) (n := n) (by rw [aGet_aSet, if_pos rfl])
    have e : passT T s (gn, n0) = (⟨if n.held.length = 0 then aDel (aSet T.names s (gn, n)) s else aSet T.names s (gn, n), ws⟩, pre) := by
      unfold passT
      show (Tb.mk (if (passN L n0 T.waits).1.held.length = 0 then aDel T.names s else aSet T.names s (gn, (passN L n0 T.waits).1)) (passN L n0 T.waits).2.1, (passN L n0 T.waits).2.2) = _
      rw [hp]
      have : aDel (aSet T.names s (gn, n)) s = aDel T.names s := by
        obtain ⟨j, hj⟩ := aGet_some hn
        obtain ⟨A, B, q1, q2, q3⟩ := aFind_split hj
        have : aGet (aSet T.names s (gn, n)) s = some (gn, n) := by rw [aGet_aSet, if_pos rfl]
        unfold aDel at q3 ⊢
        rw [hj] at q3
        have hjs : aFind (aSet T.names s (gn, n)) s 0 = some (j, (gn, n)) := by
          have h1 : (aSet T.names s (gn, n)) = T.names.set j (s, (gn, n)) := by unfold aSet; rw [hj]
          have gen : ∀ (l : List (List UInt8 × (Nat × Nm))) (i j : Nat) (q : Nat × Nm), aFind l s i = some (i + j, q) → aFind (l.set j (s, (gn, n))) s i = some (i + j, (gn, n)) := by
            intro l
            induction l with
            | nil => intro i j q h; cases h
            | cons p l ih =>
              intro i j q h
              cases j with
              | zero =>
                rw [List.set_cons_zero]
                unfold aFind
                rw [if_pos rfl]; rfl
              | succ j =>
                rw [List.set_cons_succ]
                unfold aFind at h ⊢
                by_cases hs : s = p.1
                · rw [if_pos hs] at h
                  simp at h
                · rw [if_neg hs] at h ⊢
                  have := ih (i + 1) j q (by rw [h]; congr 2; omega)
                  rw [this]; congr 2; omega
          rw [h1]
          have := gen T.names 0 j (gn, n0) (by rw [hj]; congr 2; omega)
          rw [this]; congr 2; omega
        rw [hjs, hj]
        simp only
        have h1 : (aSet T.names s (gn, n)) = T.names.set j (s, (gn, n)) := by unfold aSet; rw [hj]
        rw [h1]
        exact List.eraseIdx_set_eq ..
      rw [this]
    rw [e]; exact this
  refine st_loop (fun vs w' => ∃ k, I k vs w') (minK I) ⟨L, hI0⟩ ?_
  rintro dv vs w2 - hex
  obtain ⟨⟨n, ws, pre, hG, e0, hk, hpk, hsn, hp⟩, -⟩ := minK_spec hex
  generalize minK I vs w2 = k at hk hpk hp
  have hnn : aGet (Tb.mk (aSet T.names s (gn, n)) ws).names s = some (gn, n) := by show aGet (aSet T.names s (gn, n)) s = _; rw [aGet_aSet, if_pos rfl]
  obtain ⟨v, hl, hr, hT, hm2, hbl⟩ := hG
  simp (disch := first | assumption | omega) only [e0, PX, BX]
  refine ⟨fun hx => ?_, fun hx => ?_⟩
  rotate_left
  · have h0 : firstN n = 0 := by omega
    refine fin ⟨v, hl, hr, hT, hm2, hbl⟩ ?_
    rw [hp]
    cases k with
    | zero => simp [passN]
    | succ k => simp [passN, h0]
  have hlt := leaveN_lt hx
  obtain ⟨k, rfl⟩ : ∃ k', k = k' + 1 := ⟨k - 1, by omega⟩
  obtain ⟨bn, bw, on, ow, d0, d1, hn1, hn2, hw1, hw2, -⟩ := hT.look
  simp (disch := first | assumption | omega) only [PX, LX, add_mk, Nat.reduceAdd]
  rw [step_run (run_lookup uWaits keyI_ok ze_want hw1 hw2 (firstN n) false), if_neg Bool.false_ne_true, waits_get]
  generalize hwt : (aGet ws (firstN n)).getD ⟨[], 0⟩ = wt
  refine st_talloc ze_want hT ?_
  intro b w3 h3 hb
  refine st_tstoreN (vs := [strV wt.name, .int .i64 wt.mode]) (by rw [sz31]; rfl) h3 rfl (by simp [Value.oneCell']) (.inr hb) ?_
  intro w4 h4
  have h4 : TbAt W ks (wtBx b wt :: (bl, .cells #[v] 50 (0, 0)) :: (hl ++ F)) ⟨aSet T.names s (gn, n), ws⟩ g w4 := h4
  obtain ⟨b0, b1⟩ := wt_cells (h4.at_ (List.mem_cons_self ..))
  simp (disch := first | assumption | omega) only [PX, LX, add_mk, Nat.reduceAdd]
  refine st_call (h4.would hnn _ _) ?_
  rintro _ w5 ⟨rfl, h5⟩
  refine st_call (h5.goes hnn _ _) ?_
  rintro _ w6 ⟨rfl, h6⟩
  have back : ∀ {w' : World} {T' : Tb}, TbAt W ks (wtBx b wt :: (bl, .cells #[v] 50 (0, 0)) :: (hl ++ F)) T' g w' → TbAt W ks ((bl, .cells #[v] 50 (0, 0)) :: (hl ++ F)) T' g w' := fun hh => hh.weak (List.sublist_cons_self ..)
  simp only [PX]
  rw [bool_var]
  refine ⟨fun hgo => ?_, fun hgo => ?_⟩
  · refine fin ⟨v, hl, hr, back h6, hm2, hbl⟩ ?_
    rw [hp]
    have hgo : goesB n (firstN n) (wouldN n (firstN n) wt.mode) = false := by simpa using hgo
    unfold passN
    rw [if_neg hx, hwt, if_neg (by rw [hgo]; exact Bool.false_ne_true)]
    simp
  have hgo : goesB n (firstN n) (wouldN n (firstN n) wt.mode) = true := by simpa using hgo
  refine st_call (h6.leave hnn hsn (firstN n)) ?_
  rintro _ w7 ⟨rfl, h7⟩
  obtain ⟨bn, bw, on, ow, d0, d1, -⟩ := h7.look
  simp (disch := first | assumption | omega) only [PX, LX, add_mk, Nat.reduceAdd]
  refine st_waitsDel h7 d1 (firstN n) ?_
  intro w8 h8
  have hn8 : aGet (Tb.mk (putN ⟨aSet T.names s (gn, n), ws⟩ s (gn, leaveN n (firstN n))).names (aDel (putN ⟨aSet T.names s (gn, n), ws⟩ s (gn, leaveN n (firstN n))).waits (firstN n))).names s = some (gn, leaveN n (firstN n)) := get_putN _ _ _
  obtain ⟨bh, oh, vt, vr, c0, c1, c2, -⟩ := h8.name hn8
  simp (disch := first | assumption | omega) only [PX, LX, add_mk, Nat.reduceAdd]
  refine h8.heldSet hn8 c0 _ _ ?_
  intro w9 h9
  have e9 : (putN (Tb.mk (putN ⟨aSet T.names s (gn, n), ws⟩ s (gn, leaveN n (firstN n))).names (aDel (putN ⟨aSet T.names s (gn, n), ws⟩ s (gn, leaveN n (firstN n))).waits (firstN n))) s (gn, { leaveN n (firstN n) with held := aSet (leaveN n (firstN n)).held (firstN n) (wouldN n (firstN n) wt.mode) })) =
      ⟨aSet T.names s (gn, { leaveN n (firstN n) with held := aSet n.held (firstN n) (wouldN n (firstN n) wt.mode) }), aDel ws (firstN n)⟩ := by
    unfold putN; simp only [aSet_aSet]; rfl
  rw [e9] at h9
  rw [step_run (run_sLoad (wt_load (h9.at_ (List.mem_cons_self ..)))), step_run (build_gr _ _ _), step_enter (call_told _ _ _)]
  have hG9 : GrAt W ks F (gs ++ pre) bl ⟨aSet T.names s (gn, { leaveN n (firstN n) with held := aSet n.held (firstN n) (wouldN n (firstN n) wt.mode) }), aDel ws (firstN n)⟩ g w9 := ⟨v, hl, hr, back h9, hm2, hbl⟩
  refine CallsR.mono (told_spec hG9 (by rw [List.length_append]; have : L = n0.turns.length + n0.row.length := rfl; omega) (firstN n, wt)) ?_
  rintro u w10 ⟨rfl, hG10⟩
  obtain ⟨v2, hl2, hr2, hT2, hm22, -⟩ := hG10
  refine st_call (hT2.first (s := s) (gn := gn) (by show aGet (aSet T.names s _) s = _; rw [aGet_aSet, if_pos rfl])) ?_
  rintro _ w11 ⟨rfl, rfl⟩
  refine minK_go (I := I) (k' := k) ⟨_, aDel ws (firstN n), pre ++ [(firstN n, wt)], ⟨v2, hl2, by rw [← List.append_assoc]; exact hr2, hT2, hm22, hbl⟩, rfl, ?_, ?_, ⟨?_, ?_⟩, ?_⟩ (Nat.lt_succ_self k)
  · show (outN n.turns (firstN n)).length + (outN n.row (firstN n)).length ≤ k
    omega
  · rw [List.length_append, List.length_singleton]; omega
  · exact Nat.le_trans (outN_le _ _) hsn.1
  · exact Nat.le_trans (outN_le _ _) hsn.2
  · rw [hp, passN_go hx (by rw [hwt]; exact hgo), hwt]
    simp
end
end Go.Proofs.YtakifgecgmdjcaaGreat

/- Locks: gone, the plain part. -/
namespace Go.Proofs.YtakifgecgmdjcaaGreat
open Go Xf Go.RowKit
set_option linter.unusedVariables false
set_option linter.unusedSimpArgs false
set_option maxRecDepth 100000

def leftB (n : Nm) (txn : Int) : Bool := decide ((outN n.turns txn).length + (outN n.row txn).length < n.turns.length + n.row.length)
/-- one name, when somebody goes -/
def goneS (T : Tb) (s : List UInt8) (q : Nat × Nm) (txn : Int) (all : Bool) : Tb × List Gr :=
  if (aGet q.2.held txn).isSome && all then passT (putN T s (q.1, { leaveN q.2 txn with held := aDel q.2.held txn })) s (q.1, { leaveN q.2 txn with held := aDel q.2.held txn })
  else if leftB q.2 txn then passT (putN T s (q.1, leaveN q.2 txn)) s (q.1, leaveN q.2 txn)
  else (putN T s (q.1, leaveN q.2 txn), [])
def goneL (txn : Int) (all : Bool) : List (List UInt8) → Tb → Tb × List Gr
  | [], T => (T, [])
  | s :: l, T => match aGet T.names s with
    | none => goneL txn all l T
    | some q => let r := goneS T s q txn all; let r2 := goneL txn all l r.1; (r2.1, r.2 ++ r2.2)
def goneT (T : Tb) (txn : Int) (all : Bool) : Tb × List Gr := goneL txn all (sortS (T.names.map (·.1))) ⟨T.names, aDel T.waits txn⟩
def okN (n : Nm) (B : Nat) : Prop := n.turns.length ≤ B ∧ n.row.length ≤ B ∧ Keys1 n.held
structure okT (T : Tb) (B : Nat) : Prop where
  keys : Keys1 T.names
  wkeys : Keys1 T.waits
  len : T.names.length ≤ B
  short : ∀ p ∈ T.names, p.1.length ≤ 16
  nm : ∀ s q, aGet T.names s = some q → okN q.2 B
theorem okN.leave {n : Nm} {B : Nat} (h : okN n B) (txn : Int) : okN (leaveN n txn) B := ⟨Nat.le_trans (outN_le _ _) h.1, Nat.le_trans (outN_le _ _) h.2.1, h.2.2⟩
theorem okN.set {n : Nm} {B : Nat} (h : okN n B) (k v : Int) : okN { n with held := aSet n.held k v } B := ⟨h.1, h.2.1, h.2.2.set⟩
theorem okN.del {n : Nm} {B : Nat} (h : okN n B) (k : Int) : okN { n with held := aDel n.held k } B := ⟨h.1, h.2.1, h.2.2.del⟩
theorem passN_ok {B : Nat} : ∀ (k : Nat) (n : Nm) (ws : List (Int × Wt)), okN n B → Keys1 ws → okN (passN k n ws).1 B ∧ Keys1 (passN k n ws).2.1 ∧ (passN k n ws).2.2.length ≤ k
  | 0, n, ws, hn, hw => ⟨hn, hw, Nat.le_refl _⟩
  | k + 1, n, ws, hn, hw => by
    unfold passN
    split
    · exact ⟨hn, hw, Nat.zero_le _⟩
    · split
      · obtain ⟨h1, h2, h3⟩ := passN_ok (B := B) k { leaveN n (firstN n) with held := aSet n.held (firstN n) (wouldN n (firstN n) ((aGet ws (firstN n)).getD ⟨[], 0⟩).mode) } (aDel ws (firstN n)) ((hn.leave _).set _ _) hw.del
        exact ⟨h1, h2, Nat.succ_le_succ h3⟩
      · exact ⟨hn, hw, Nat.zero_le _⟩
theorem mem_names {T : Tb} {p : List UInt8 × (Nat × Nm)} (hk : Keys1 T.names) (hp : p ∈ T.names) : aGet T.names p.1 = some p.2 := aGet_of_mem hk hp
theorem aGet_key {κ ν : Type} [DecidableEq κ] {l : List (κ × ν)} {k : κ} {v : ν} (h : aGet l k = some v) : k ∈ l.map (·.1) := aGet_keys.1 (by rw [h]; rfl)
/-- a name that is there, laid anew -/
theorem okT.put {T : Tb} {B : Nat} {s : List UInt8} {q0 q : Nat × Nm} (h : okT T B) (h0 : aGet T.names s = some q0) (hq : okN q.2 B) : okT (putN T s q) B := by
  have hsh : ∀ x ∈ T.names.map (·.1), x.length ≤ 16 := fun x hx => by obtain ⟨p, hp, rfl⟩ := List.mem_map.1 hx; exact h.short p hp
  refine ⟨h.keys.set, h.wkeys, ?_, fun p hp => ?_, fun s' q' h' => ?_⟩
  · show (aSet T.names s q).length ≤ B
    rw [aSet_length, h0]; exact h.len
  · rcases aSet_keys.1 (List.mem_map_of_mem (f := (·.1)) hp) with he | he
    · rw [he]; exact hsh _ (aGet_key h0)
    · exact hsh _ he
  · rw [putN, aGet_aSet] at h'
    split at h'
    · injection h' with h'; subst h'; exact hq
    · exact h.nm s' q' h'
theorem passT_ok {T : Tb} {B : Nat} {s : List UInt8} {q : Nat × Nm} (h : okT T B) (h0 : aGet T.names s = some q) : okT (passT T s q).1 B ∧ (passT T s q).2.length ≤ 2 * B ∧ ∀ s', s' ≠ s → aGet (passT T s q).1.names s' = aGet T.names s' := by
  have hq := h.nm s q h0
  obtain ⟨h1, h2, h3⟩ := passN_ok (q.2.turns.length + q.2.row.length) q.2 T.waits hq h.wkeys
  unfold passT
  have hlen := hq.1
  have hlen2 := hq.2.1
  refine ⟨?_, by show (passN _ _ _).2.2.length ≤ 2 * B; omega, fun s' hs => ?_⟩
  · by_cases hz : (passN (q.2.turns.length + q.2.row.length) q.2 T.waits).1.held.length = 0
    · simp only [hz, if_true]
      refine ⟨h.keys.del, h2, Nat.le_trans (aDel_length _ _) h.len, fun p hp => ?_, fun s' q' h' => ?_⟩
      · have hm := ((aDel_keys h.keys).1 (List.mem_map_of_mem (f := (·.1)) hp)).2
        obtain ⟨p', hp', he⟩ := List.mem_map.1 hm
        rw [← he]; exact h.short p' hp'
      · rw [aGet_aDel h.keys] at h'
        split at h'
        · cases h'
        · exact h.nm s' q' h'
    · simp only [hz, if_false]
      have := h.put h0 (q := (q.1, (passN (q.2.turns.length + q.2.row.length) q.2 T.waits).1)) h1
      exact ⟨this.keys, h2, this.len, this.short, this.nm⟩
  · by_cases hz : (passN (q.2.turns.length + q.2.row.length) q.2 T.waits).1.held.length = 0
    · simp only [hz, if_true]
      rw [aGet_aDel h.keys, if_neg hs]
    · simp only [hz, if_false]
      rw [aGet_aSet, if_neg hs]
theorem get_putN_ne (T : Tb) {s s' : List UInt8} (q : Nat × Nm) (h : s' ≠ s) : aGet (putN T s q).names s' = aGet T.names s' := by rw [putN, aGet_aSet, if_neg h]
theorem goneS_ok {T : Tb} {B : Nat} {s : List UInt8} {q : Nat × Nm} (txn : Int) (all : Bool) (h : okT T B) (h0 : aGet T.names s = some q) : okT (goneS T s q txn all).1 B ∧ (goneS T s q txn all).2.length ≤ 2 * B ∧ ∀ s', s' ≠ s → aGet (goneS T s q txn all).1.names s' = aGet T.names s' := by
  have hq := h.nm s q h0
  unfold goneS
  split
  · obtain ⟨h1, h2, h3⟩ := passT_ok (h.put (q := (q.1, { leaveN q.2 txn with held := aDel q.2.held txn })) h0 (okN.del (n := leaveN q.2 txn) (hq.leave txn) txn)) (get_putN _ _ _)
    exact ⟨h1, h2, fun s' hs => by rw [h3 s' hs, get_putN_ne _ _ hs]⟩
  · split
    · obtain ⟨h1, h2, h3⟩ := passT_ok (h.put (q := (q.1, leaveN q.2 txn)) h0 (hq.leave txn)) (get_putN _ _ _)
      exact ⟨h1, h2, fun s' hs => by rw [h3 s' hs, get_putN_ne _ _ hs]⟩
    · exact ⟨h.put (q := (q.1, leaveN q.2 txn)) h0 (hq.leave txn), Nat.zero_le _, fun s' hs => get_putN_ne _ _ hs⟩
theorem goneL_ok {B : Nat} (txn : Int) (all : Bool) : ∀ (l : List (List UInt8)) (T : Tb), okT T B → okT (goneL txn all l T).1 B
  | [], T, h => h
  | s :: l, T, h => by
    unfold goneL
    split
    · exact goneL_ok txn all l T h
    · rename_i q h0
      exact goneL_ok txn all l _ (goneS_ok txn all h h0).1
theorem goneT_ok {T : Tb} {B : Nat} (txn : Int) (all : Bool) (h : okT T B) : okT (goneT T txn all).1 B := goneL_ok txn all _ _ ⟨h.keys, h.wkeys.del, h.len, h.short, h.nm⟩
theorem okT.mono {T : Tb} {B C : Nat} (h : okT T B) (hc : B ≤ C) : okT T C := ⟨h.keys, h.wkeys, Nat.le_trans h.len hc, h.short, fun s q hq => ⟨Nat.le_trans (h.nm s q hq).1 hc, Nat.le_trans (h.nm s q hq).2.1 hc, (h.nm s q hq).2.2⟩⟩
theorem okT.empty (B : Nat) : okT ⟨[], []⟩ B := ⟨List.nodup_nil, List.nodup_nil, Nat.zero_le _, fun p hp => (by cases hp), fun s q h => (by cases h)⟩
theorem putN_ok' {T : Tb} {B : Nat} {s : List UInt8} {q : Nat × Nm} (h : okT T B) (hs : s.length ≤ 16) (hq : okN q.2 (B + 1)) : okT (putN T s q) (B + 1) := by
  refine ⟨h.keys.set, h.wkeys, ?_, fun p hp => ?_, fun s' q' h' => ?_⟩
  · show (aSet T.names s q).length ≤ B + 1
    rw [aSet_length]; have := h.len; split <;> omega
  · rcases aSet_keys.1 (List.mem_map_of_mem (f := (·.1)) hp) with he | he
    · rw [he]; exact hs
    · obtain ⟨p', hp', he'⟩ := List.mem_map.1 he
      rw [← he']; exact h.short p' hp'
  · rw [putN, aGet_aSet] at h'
    split at h'
    · injection h' with h'; subst h'; exact hq
    · exact (h.mono (Nat.le_succ B)).nm s' q' h'
theorem askT_ok {T : Tb} {B : Nat} (new : Nat) (txn : Int) (v : Wt) (h : okT T B) : okT (askT T new txn v).1 (B + 1) := by
  unfold askT
  split
  · rename_i hok
    split
    · exact h.mono (Nat.le_succ B)
    · have hq : okN ((aGet T.names v.name).getD (new, noNm)).2 B := by
        cases hg : aGet T.names v.name with
        | none => exact ⟨Nat.zero_le _, Nat.zero_le _, List.nodup_nil⟩
        | some q => exact h.nm _ _ hg
      generalize (aGet T.names v.name).getD (new, noNm) = q at hq
      have hq1 : okN q.2 (B + 1) := ⟨Nat.le_succ_of_le hq.1, Nat.le_succ_of_le hq.2.1, hq.2.2⟩
      show okT (askAt T q txn v).1 (B + 1)
      unfold askAt
      split
      · exact putN_ok' h hok.2.2.1 hq1
      · split
        · exact putN_ok' h hok.2.2.1 (hq1.set _ _)
        · have hqq : okN (queueN q.2 txn) (B + 1) := by
            unfold queueN
            split
            · exact ⟨by simp only [List.length_append, List.length_singleton]; have := hq.1; omega, hq1.2.1, hq.2.2⟩
            · exact ⟨hq1.1, by simp only [List.length_append, List.length_singleton]; have := hq.2.1; omega, hq.2.2⟩
          have := putN_ok' (q := (q.1, queueN q.2 txn)) h hok.2.2.1 hqq
          exact ⟨this.keys, h.wkeys.set, this.len, this.short, this.nm⟩
  · exact h.mono (Nat.le_succ B)
end Go.Proofs.YtakifgecgmdjcaaGreat

/- Locks: gone. -/
namespace Go.Proofs.YtakifgecgmdjcaaGreat
open Go Xf Go.RowKit
set_option linter.unusedVariables false
set_option linter.unusedSimpArgs false
set_option maxRecDepth 100000

section
variable {W w w' : World} {ks : List Nat} {F G : List (Nat × Obj)} {T : Tb} {g : Nat} {K : Value → World → Prop}
theorem TbAt.addH {hS : List (Nat × Obj)} (h : TbAt W ks F T g w) (hU : Upd w w' []) (hO : Owns w' hS) (hn : ∀ p ∈ hS, w.heap.size ≤ p.1) : TbAt W ks (hS ++ F) T g w' := by
  obtain ⟨h1, h2, h3, h4, h5⟩ := h
  refine ⟨h1.then_ hU (fun x hx => by cases hx), h2, h3, (h4.add hU hO hn).perm ?_, h5⟩
  classical
  refine List.perm_iff_count.2 fun y => ?_
  simp only [List.count_append]
  omega
/-- the names of a table, sorted -/
theorem st_sorted {B : Nat} {bn : Nat} (h : TbAt W ks F T g w) (hok : okT T B) (hB : B ≤ 1000) (hc : w.cell? ⟨g, 0, none⟩ = some (.map (some bn)))
    (hk : ∀ v hS w', RowH 9 1 v (sortS (T.names.map (·.1))).length ((sortS (T.names.map (·.1))).map strV) hS → TbAt W ks (hS ++ F) T g w' → K v w') :
    (std Tryz.prog).calls 54 #[.map (some bn)] w fun v w => (std Tryz.prog).calls 53 #[v] w K := by
  obtain ⟨bn', bw, on, ow, c0, c1, hn1, hn2, -⟩ := h.look
  have : bn' = bn := by simpa using c0.symm.trans hc
  subst this
  refine st_call (KeysS_spec w bn') ?_
  rintro _ w1 ⟨rfl, rfl⟩
  have hmx : (1000000 : Nat) ≤ maxLen := by decide
  refine st_call (SortedS_spec (w := w) hn1 hn2 hok.keys (by have := hok.len; omega) (fun p hp => by have := hok.short p hp; omega)) ?_
  rintro v w2 ⟨hS, hr, hO, hU, hn⟩
  exact hk v hS w2 hr (h.addH hU hO hn)
theorem sortS_perm (l : List (List UInt8)) : (sortS l).Perm l := List.mergeSort_perm l _
theorem strV_one (l : List (List UInt8)) : ∀ y ∈ l.map strV, y.oneCell' = true := by
  intro y hy; obtain ⟨s, -, rfl⟩ := List.mem_map.1 hy; rfl
/-- the lookup of a name -/
theorem TbAt.lookName {s : List UInt8} {bn : Nat} {q : Nat × Nm} (h : TbAt W ks F T g w) (hc : w.cell? ⟨g, 0, none⟩ = some (.map (some bn))) (hq : aGet T.names s = some q) : (sLookup 64 (.map (some bn)) (strV s) false).run Tryz.prog w = .ok (.value (.pointer (some ⟨q.1, 0, none⟩))) w := by
  obtain ⟨bn', bw, on, ow, c0, c1, hn1, hn2, -⟩ := h.look
  have : bn' = bn := by simpa using c0.symm.trans hc
  subst this
  rw [run_lookup (ve := ptV) (z := .pointer none) uNames strV_ok ze92 hn1 hn2 s false, if_neg Bool.false_ne_true, names_get, hq]
def rowsB (l : List (List UInt8)) (i B : Nat) : Nat := (l.length - i) * (2 * B)
theorem goneL_cons {txn : Int} {all : Bool} {s : List UInt8} {l : List (List UInt8)} {T : Tb} {q : Nat × Nm} (h : aGet T.names s = some q) : goneL txn all (s :: l) T = ((goneL txn all l (goneS T s q txn all).1).1, (goneS T s q txn all).2 ++ (goneL txn all l (goneS T s q txn all).1).2) := by
  conv => lhs; unfold goneL
  rw [h]
def GonePost (W : World) (ks : List Nat) (F : List (Nat × Obj)) (gs : List Gr) (T : Tb) (g : Nat) (u : Value) (w' : World) : Prop :=
  ∃ hl, RowH 53 3 u gs.length (grsV gs) hl ∧ TbAt W ks (hl ++ F) T g w' ∧ ∀ p ∈ hl, p.1 ∈ ks ∨ W.heap.size ≤ p.1
theorem gone_spec {B : Nat} (h : TbAt W ks F T g w) (hok : okT T B) (hB : B ≤ 500) (txn : Int) (all : Bool) :
    CallsR Tryz.prog 48 #[.pointer (some ⟨g, 0, none⟩), .int .i64 txn, .bool all] w fun u w' => GonePost W ks F (goneT T txn all).2 (goneT T txn all).1 g u w' := by
  apply lock_Table_gone_sound
  unfold lock_Table_gone_x
  simp (disch := first | assumption | omega) only [PX, BX]
  refine st_talloc (z := .slice none 0 0) ze50 h ?_
  intro bl w1 h1 hbl
  have h1 : TbAt W ks ((bl, .cells #[.slice none 0 0] 50 (0, 0)) :: F) T g w1 := h1
  obtain ⟨bn, bw, on, ow, d0, d1, -⟩ := h1.look
  simp (disch := first | assumption | omega) only [PX, LX, add_mk, Nat.reduceAdd]
  refine st_waitsDel h1 d1 txn ?_
  intro w2 h2
  obtain ⟨bn, bw, on, ow, d0, d1, -⟩ := h2.look
  simp (disch := first | assumption | omega) only [PX, LX, add_mk, Nat.reduceAdd]
  have hok2 : okT ⟨T.names, aDel T.waits txn⟩ B := ⟨hok.keys, hok.wkeys.del, hok.len, hok.short, hok.nm⟩
  refine st_sorted h2 hok2 (by omega) d0 ?_
  intro v hS w3 hrS h3
  have hgo : goneT T txn all = goneL txn all (sortS (T.names.map (·.1))) ⟨T.names, aDel T.waits txn⟩ := rfl
  have hmem : ∀ s ∈ sortS (T.names.map (·.1)), ∃ q, aGet T.names s = some q := fun s hs => Option.isSome_iff_exists.1 (aGet_keys.2 ((sortS_perm _).mem_iff.1 hs))
  have hnd : (sortS (T.names.map (·.1))).Nodup := (sortS_perm _).nodup_iff.2 hok.keys
  have hll : (sortS (T.names.map (·.1))).length ≤ B := by rw [(sortS_perm _).length_eq, List.length_map]; exact hok.len
  generalize sortS (T.names.map (·.1)) = l at hrS hgo hmem hnd hll
  obtain ⟨A, n1, rfl⟩ := RowH.sl' hrS
  simp (disch := first | assumption | omega) only [PX, BX]
  have hG0 : GrAt W ks (hS ++ F) [] bl ⟨T.names, aDel T.waits txn⟩ g w3 := ⟨_, [], RowH.nil_ _ _, h3.permF List.perm_middle, (fun p hp => by cases hp), hbl⟩
  refine st_loop (fun vs w' => ∃ (i : Nat) (gs : List Gr) (Ti : Tb), i ≤ l.length ∧ vs.getD 0 undef = .int .i64 i ∧ GrAt W ks (hS ++ F) gs bl Ti g w' ∧ okT Ti B ∧ gs.length ≤ i * (2 * B) ∧ (∀ s ∈ l.drop i, ∃ q, aGet Ti.names s = some q) ∧
      goneT T txn all = ((goneL txn all (l.drop i) Ti).1, gs ++ (goneL txn all (l.drop i) Ti).2)) (fun vs _ => l.length - (intOf (vs.getD 0 undef)).toNat) ⟨0, [], _, Nat.zero_le _, rfl, hG0, hok2, Nat.zero_le _, by rw [List.drop_zero]; exact hmem, by rw [List.drop_zero, hgo]; rfl⟩ ?_
  rintro dv vs w4 - ⟨i, gs, Ti, hi, e0, hG, hokT, hgl, hin, hrun⟩
  simp (disch := first | assumption | omega) only [e0, PX, BX]
  refine ⟨fun hlt => ?_, fun hge => ?_⟩
  rotate_left
  · obtain rfl : i = l.length := by omega
    obtain ⟨v, hl, hr, hT, hm2, -⟩ := hG
    rw [List.drop_length] at hrun
    have hrun : goneT T txn all = (Ti, gs) := by rw [hrun]; unfold goneL; rw [List.append_nil]
    unfold lock_Table_gone_k1
    obtain ⟨A2, n2, rfl⟩ := RowH.sl' hr
    have hc : w4.cell? ⟨bl, 0, none⟩ = some (.slice A2 gs.length n2) := (cell_at (hT.at_ (List.mem_cons_self ..))).trans rfl
    simp (disch := first | assumption | omega) only [PX, LX, add_mk, Nat.reduceAdd]
    rw [hrun]
    refine ⟨hl, hr, hT.weak (.cons _ (List.Sublist.append_left (List.sublist_append_right _ _) _)), hm2⟩
  have hi' : i < l.length := by omega
  obtain ⟨v, hl, hr, hT, hm2, -⟩ := hG
  have hOS : Owns w4 (hS ++ ((bl, .cells #[v] 50 (0, 0)) :: (hl ++ F))) := hT.owns.perm (by
    classical
    refine List.perm_iff_count.2 fun y => ?_
    simp only [List.count_cons, List.count_append]
    omega)
  obtain ⟨A', n', hAn, -, -, hx⟩ := hrS.rd hOS
  injection hAn with q1 q2 q3
  subst q1 q3
  obtain ⟨a, rfl, ha⟩ := hx i (strV l[i]) (by simp [hi'])
  simp (disch := first | assumption | omega) only [PX, LX, Nat.mul_one]
  obtain ⟨⟨gn, n⟩, hq⟩ := hin l[i] (by rw [List.drop_eq_getElem_cons hi']; exact List.mem_cons_self ..)
  have hcons := hrun
  rw [List.drop_eq_getElem_cons hi', goneL_cons hq] at hcons
  obtain ⟨bn, bw, on, ow, d0, d1, -⟩ := hT.look
  simp (disch := first | assumption | omega) only [PX, LX, add_mk, Nat.reduceAdd]
  rw [step_run (hT.lookName d0 hq)]
  have hnm : okN n B := hokT.nm _ _ hq
  have hsm : smallN n := ⟨by have := hnm.1; omega, by have := hnm.2.1; omega⟩
  refine st_call (hT.leave hq hsm txn) ?_
  rintro _ w5 ⟨rfl, h5⟩
  have hq5 := get_putN Ti l[i] (gn, leaveN n txn)
  obtain ⟨bh, oh, vt, vr, c0, c1, c2, hg, hm, hmap, r1, r2⟩ := h5.name hq5
  simp (disch := first | assumption | omega) only [PX, LX, add_mk, Nat.reduceAdd]
  rw [step_run (run_lookup uHeld keyI_ok ze29 hm hmap txn true), if_pos rfl, modes_get]
  simp (disch := first | assumption | omega) only [PX, LX, add_mk, Nat.reduceAdd]
  have hsub := goneS_ok txn all hokT hq
  have hilt : i * (2 * B) + 2 * B ≤ 1000000 := by
    have h1 : (i + 1) * (2 * B) ≤ 500 * (2 * 500) := Nat.mul_le_mul (by omega) (by omega)
    rw [Nat.succ_mul] at h1
    omega
  -- behind this name
  have again : ∀ {w' : World}, GrAt W ks (hS ++ F) (gs ++ (goneS Ti l[i] (gn, n) txn all).2) bl (goneS Ti l[i] (gn, n) txn all).1 g w' → lock_Table_gone_k2 (std Tryz.prog) vs (fun vs' w' => (∃ (i : Nat) (gs : List Gr) (Ti : Tb), i ≤ l.length ∧ vs'.getD 0 undef = .int .i64 i ∧ GrAt W ks (hS ++ F) gs bl Ti g w' ∧ okT Ti B ∧ gs.length ≤ i * (2 * B) ∧ (∀ s ∈ l.drop i, ∃ q, aGet Ti.names s = some q) ∧
      goneT T txn all = ((goneL txn all (l.drop i) Ti).1, gs ++ (goneL txn all (l.drop i) Ti).2)) ∧ l.length - (intOf (vs'.getD 0 undef)).toNat < l.length - (intOf (Value.int .i64 i)).toNat) w' fun u w' => GonePost W ks F (goneT T txn all).2 (goneT T txn all).1 g u w' := fun {w'} hG' => by
    unfold lock_Table_gone_k2
    simp (disch := omega) only [e0, PX, w64]
    refine ⟨⟨i + 1, _, _, by omega, rfl, hG', hsub.1, ?_, fun s hs => ?_, ?_⟩, ?_⟩
    · rw [List.length_append, Nat.succ_mul]; have := hsub.2.1; omega
    · have hne : s ≠ l[i] := fun he => by
        subst he
        have := hnd
        rw [← List.take_append_drop i l, List.drop_eq_getElem_cons hi', List.nodup_append, List.nodup_cons] at this
        exact this.2.1.1 hs
      rw [hsub.2.2 s hne]
      exact hin s (by rw [List.drop_eq_getElem_cons hi']; exact List.mem_cons_of_mem _ hs)
    · rw [hcons, List.append_assoc]
    · simp only [List.getD_cons_zero, intOf]; omega
  have k3 : ∀ {w' : World} (left : Bool), left = leftB n txn → ((aGet n.held txn).isSome && all) = false → TbAt W ks ((bl, .cells #[v] 50 (0, 0)) :: (hl ++ (hS ++ F))) (putN Ti l[i] (gn, leaveN n txn)) g w' →
      lock_Table_gone_k3 (std Tryz.prog) (.pointer (some ⟨g, 0, none⟩)) (.pointer (some ⟨bl, 0, none⟩)) vs (fun vs' w' => (∃ (i : Nat) (gs : List Gr) (Ti : Tb), i ≤ l.length ∧ vs'.getD 0 undef = .int .i64 i ∧ GrAt W ks (hS ++ F) gs bl Ti g w' ∧ okT Ti B ∧ gs.length ≤ i * (2 * B) ∧ (∀ s ∈ l.drop i, ∃ q, aGet Ti.names s = some q) ∧
      goneT T txn all = ((goneL txn all (l.drop i) Ti).1, gs ++ (goneL txn all (l.drop i) Ti).2)) ∧ l.length - (intOf (vs'.getD 0 undef)).toNat < l.length - (intOf (Value.int .i64 i)).toNat) (strV l[i]) (.bool left) w' fun u w' => GonePost W ks F (goneT T txn all).2 (goneT T txn all).1 g u w' := fun {w'} left hle hno hh => by
    unfold lock_Table_gone_k3
    rw [bool_var]
    refine ⟨fun hl1 => ?_, fun hl1 => ?_⟩
    · rw [step_run (mk_told _ _)]
      refine st_call (pass_spec (⟨v, hl, hr, hh, hm2, hbl⟩ : GrAt W ks (hS ++ F) gs bl (putN Ti l[i] (gn, leaveN n txn)) g w') hq5 ⟨Nat.le_trans (outN_le _ _) hsm.1, Nat.le_trans (outN_le _ _) hsm.2⟩ ?_) ?_
      · show gs.length + ((outN n.turns txn).length + (outN n.row txn).length) ≤ 1000000
        have := outN_le n.turns txn
        have := outN_le n.row txn
        have := hnm.1
        have := hnm.2.1
        omega
      · rintro _ w6 ⟨rfl, h6⟩
        refine again ?_
        unfold goneS
        rw [if_neg (by rw [hno]; exact Bool.false_ne_true), if_pos (by rw [← hle]; exact hl1)]
        exact h6
    · refine again ?_
      unfold goneS
      rw [if_neg (by rw [hno]; exact Bool.false_ne_true), if_neg (by rw [← hle, hl1]; exact Bool.false_ne_true), List.append_nil]
      exact ⟨v, hl, hr, hh, hm2, hbl⟩
  rw [bool_var]
  refine ⟨fun his => ?_, fun his => ?_⟩
  · rw [bool_var]
    refine ⟨fun hall => ?_, fun hall => ?_⟩
    · refine h5.heldDel hq5 c0 txn ?_
      intro w6 h6
      rw [putN_putN] at h6
      rw [step_run (mk_told _ _)]
      refine st_call (pass_spec (⟨v, hl, hr, h6, hm2, hbl⟩ : GrAt W ks (hS ++ F) gs bl (putN Ti l[i] (gn, { leaveN n txn with held := aDel (leaveN n txn).held txn })) g w6) (get_putN _ _ _) ⟨Nat.le_trans (outN_le _ _) hsm.1, Nat.le_trans (outN_le _ _) hsm.2⟩ ?_) ?_
      · show gs.length + ((outN n.turns txn).length + (outN n.row txn).length) ≤ 1000000
        have := outN_le n.turns txn
        have := outN_le n.row txn
        have := hnm.1
        have := hnm.2.1
        omega
      · rintro _ w7 ⟨rfl, h7⟩
        refine again ?_
        unfold goneS
        rw [if_pos (by rw [hall, Bool.and_true]; exact his)]
        exact h7
    · exact k3 _ rfl (by rw [hall, Bool.and_false]) h5
  · exact k3 _ rfl (by rw [show (aGet n.held txn).isSome = false from his, Bool.false_and]) h5
end
end Go.Proofs.YtakifgecgmdjcaaGreat

/- Locks: Free, Cancel, Waits, Held. -/
namespace Go.Proofs.YtakifgecgmdjcaaGreat
open Go Xf Go.RowKit
set_option linter.unusedVariables false
set_option linter.unusedSimpArgs false
set_option maxRecDepth 100000

abbrev He := List UInt8 × Int
def heV (p : He) : List Value := [strV p.1, .int .i64 p.2]
def hesV (l : List He) : List Value := l.flatMap heV
theorem heV_len (p : He) : (heV p).length = 2 := rfl
theorem hesV_len (l : List He) : (hesV l).length = l.length * 2 := flat_len heV 2 heV_len l
theorem hesV_one (l : List He) : ∀ y ∈ hesV l, y.oneCell' = true := by
  intro y hy
  obtain ⟨p, -, hy⟩ := List.mem_flatMap.1 hy
  simp only [heV, List.mem_cons, List.not_mem_nil, or_false] at hy
  rcases hy with rfl | rfl <;> rfl
theorem build_he (s : List UInt8) (m : Int) (w : World) : (sBuild 104 [(0, strV s), (1, .int .i64 m)]).run Tryz.prog w = .ok (.value (.agg (heV (s, m)).toArray)) w := by kernel_rfl
theorem row_he (p : He) (w : World) : (sBuildSlice 59 1 [(0, .agg (heV p).toArray)]).run Tryz.prog w = .ok (.value (.slice (some ⟨w.heap.size, 0, none⟩) 1 1)) (w.alloc (.cells (heV p).toArray 104)) := by kernel_rfl
theorem info_he : ∃ i, Tryz.prog.info? 104 = some i ∧ i.zero = some (.agg #[.string ⟨#[]⟩, .int .i64 0]) ∧ i.size = 2 ∧ i.bytes = 24 := inf104
/-- what somebody has on a name -/
def hasT (T : Tb) (x : Int) (s : List UInt8) : Option Int := (aGet T.names s).bind fun q => aGet q.2.held x
def heldL (T : Tb) (x : Int) (l : List (List UInt8)) : List He := l.filterMap fun s => (hasT T x s).map fun m => (s, m)
def heldT (T : Tb) (x : Int) : List He := heldL T x (sortS (T.names.map (·.1)))

section
variable {W w w' : World} {ks : List Nat} {F G : List (Nat × Obj)} {T : Tb} {g : Nat} {K : Value → World → Prop}
theorem Free_spec {B : Nat} (h : TbAt W ks F T g w) (hok : okT T B) (hB : B ≤ 500) (txn : Int) :
    CallsR Tryz.prog 18 #[.pointer (some ⟨g, 0, none⟩), .int .i64 txn] w fun u w' => GonePost W ks F (goneT T txn true).2 (goneT T txn true).1 g u w' := by
  apply lock_Table_Free_sound
  unfold lock_Table_Free_x
  exact st_call (gone_spec h hok hB txn true) fun _ _ h => h
theorem Cancel_spec {B : Nat} (h : TbAt W ks F T g w) (hok : okT T B) (hB : B ≤ 500) (txn : Int) :
    CallsR Tryz.prog 22 #[.pointer (some ⟨g, 0, none⟩), .int .i64 txn] w fun u w' => GonePost W ks F (goneT T txn false).2 (goneT T txn false).1 g u w' := by
  apply lock_Table_Cancel_sound
  unfold lock_Table_Cancel_x
  exact st_call (gone_spec h hok hB txn false) fun _ _ h => h
theorem GonePost.tb {gs : List Gr} {u : Value} (h : GonePost W ks F gs T g u w) : TbAt W ks F T g w := by
  obtain ⟨hl, -, hT, -⟩ := h
  exact hT.weak (List.sublist_append_right _ _)
theorem Waits_spec (h : TbAt W ks F T g w) (x : Int) : CallsR Tryz.prog 17 #[.pointer (some ⟨g, 0, none⟩), .int .i64 x] w fun u w' => u = .tuple #[wtV ((aGet T.waits x).getD ⟨[], 0⟩), .bool (aGet T.waits x).isSome] ∧ TbAt W ks F T g w' := by
  apply lock_Table_Waits_sound
  unfold lock_Table_Waits_x
  refine st_talloc ze_want h ?_
  intro b w1 h1 hb
  obtain ⟨bn, bw, on, ow, d0, d1, -, -, hw1, hw2, -⟩ := h1.look
  simp (disch := first | assumption | omega) only [PX, BX, LX, add_mk, Nat.reduceAdd]
  rw [step_run (run_lookup uWaits keyI_ok ze_want hw1 hw2 x true), if_pos rfl, waits_get]
  simp (disch := first | assumption | omega) only [PX]
  refine st_talloc ze_want h1 ?_
  intro b2 w2 h2 hb2
  generalize (aGet T.waits x).getD ⟨[], 0⟩ = wt
  refine st_tstoreN (vs := [strV wt.name, .int .i64 wt.mode]) (by rw [sz31]; rfl) h2 rfl (by simp [Value.oneCell']) (.inr hb2) ?_
  intro w3 h3
  have h3 : TbAt W ks (wtBx b2 wt :: (b, .cells (Value.agg #[.string ⟨#[]⟩, .int .i64 0]).cells 31) :: F) T g w3 := h3
  rw [step_run (run_sLoad (wt_load (h3.at_ (List.mem_cons_self ..))))]
  have h3 := h3.permF (List.Perm.swap ..)
  refine st_tstoreN (vs := [strV wt.name, .int .i64 wt.mode]) (by rw [sz31]; rfl) h3 rfl (by simp [Value.oneCell']) (.inr hb) ?_
  intro w4 h4
  have h4 : TbAt W ks (wtBx b wt :: wtBx b2 wt :: F) T g w4 := h4
  refine st_loadR (wt_load (h4.at_ (List.mem_cons_self ..))) ?_
  exact ⟨rfl, h4.weak (.cons _ (.cons _ (List.Sublist.refl _)))⟩
def HeldPost (W : World) (ks : List Nat) (F : List (Nat × Obj)) (l : List He) (T : Tb) (g : Nat) (u : Value) (w' : World) : Prop :=
  ∃ hl, RowH 104 2 u l.length (hesV l) hl ∧ TbAt W ks (hl ++ F) T g w' ∧ ∀ p ∈ hl, p.1 ∈ ks ∨ W.heap.size ≤ p.1
theorem Held_spec {B : Nat} (h : TbAt W ks F T g w) (hok : okT T B) (hB : B ≤ 500) (x : Int) :
    CallsR Tryz.prog 23 #[.pointer (some ⟨g, 0, none⟩), .int .i64 x] w fun u w' => HeldPost W ks F (heldT T x) T g u w' := by
  apply lock_Table_Held_sound
  unfold lock_Table_Held_x
  obtain ⟨bn, bw, on, ow, d0, d1, -⟩ := h.look
  simp (disch := first | assumption | omega) only [PX, BX, LX, add_mk, Nat.reduceAdd]
  refine st_sorted h hok (by omega) d0 ?_
  intro v hS w3 hrS h3
  have hmem : ∀ s ∈ sortS (T.names.map (·.1)), ∃ q, aGet T.names s = some q := fun s hs => Option.isSome_iff_exists.1 (aGet_keys.2 ((sortS_perm _).mem_iff.1 hs))
  have hll : (sortS (T.names.map (·.1))).length ≤ B := by rw [(sortS_perm _).length_eq, List.length_map]; exact hok.len
  have hgo : heldT T x = heldL T x (sortS (T.names.map (·.1))) := rfl
  generalize sortS (T.names.map (·.1)) = l at hrS hgo hmem hll
  rw [hgo]
  obtain ⟨A, n1, rfl⟩ := RowH.sl' hrS
  simp (disch := first | assumption | omega) only [PX, BX]
  refine st_loop (fun vs w' => ∃ i : Nat, i ≤ l.length ∧ vs.getD 4 undef = .int .i64 i ∧ HeldPost W ks (hS ++ F) (heldL T x (l.take i)) T g (vs.getD 3 undef) w') (fun vs _ => l.length - (intOf (vs.getD 4 undef)).toNat) ⟨0, Nat.zero_le _, rfl, [], by rw [List.take_zero]; exact RowH.nil_ _ _, h3, fun p hp => by cases hp⟩ ?_
  rintro dv vs w4 - ⟨i, hi, e0, hl, hr, hT, hm2⟩
  simp (disch := first | assumption | omega) only [e0, PX, BX]
  refine ⟨fun hlt => ?_, fun hge => ?_⟩
  rotate_left
  · obtain rfl : i = l.length := by omega
    rw [List.take_length] at hr
    exact ⟨hl, hr, hT.weak (List.Sublist.append_left (List.sublist_append_right _ _) _), hm2⟩
  have hi' : i < l.length := by omega
  have hOS : Owns w4 (hS ++ (hl ++ F)) := hT.owns.perm (by
    classical
    refine List.perm_iff_count.2 fun y => ?_
    simp only [List.count_append]
    omega)
  obtain ⟨A', n', hAn, -, -, hx⟩ := hrS.rd hOS
  injection hAn with q1 q2 q3
  subst q1 q3
  obtain ⟨a, rfl, ha⟩ := hx i (strV l[i]) (by simp [hi'])
  simp (disch := first | assumption | omega) only [PX, LX, Nat.mul_one]
  obtain ⟨⟨gn, n⟩, hq⟩ := hmem l[i] (List.getElem_mem hi')
  obtain ⟨bn, bw, on, ow, d0, d1, -⟩ := hT.look
  simp (disch := first | assumption | omega) only [PX, LX, add_mk, Nat.reduceAdd]
  rw [step_run (hT.lookName d0 hq)]
  obtain ⟨bh, oh, vt, vr, c0, c1, c2, hg, hm, hmap, r1, r2⟩ := hT.name hq
  simp (disch := first | assumption | omega) only [PX, LX, add_mk, Nat.reduceAdd]
  rw [step_run (run_lookup uHeld keyI_ok ze29 hm hmap x true), if_pos rfl, modes_get]
  simp (disch := first | assumption | omega) only [PX, LX, add_mk, Nat.reduceAdd]
  have hhas : hasT T x l[i] = aGet n.held x := by unfold hasT; rw [hq]; rfl
  have hsucc : l.take (i + 1) = l.take i ++ [l[i]] := List.take_succ_eq_append_getElem hi'
  have hlen : (heldL T x (l.take i)).length ≤ 500 := by
    have h1 := List.length_filterMap_le (fun s => (hasT T x s).map fun m => (s, m)) (l.take i)
    have h2 := List.length_take_le i l
    unfold heldL; omega
  unfold lock_Table_Held_k2
  rw [bool_var]
  refine ⟨fun his => ?_, fun his => ?_⟩
  · obtain ⟨m, hm'⟩ := Option.isSome_iff_exists.1 his
    rw [hm', Option.getD_some, step_run (build_he _ _ _)]
    obtain ⟨hU, hh, hTb, hO, hmine⟩ := hT
    refine st_newRow (fun w => row_he (l[i], m) w) hU hO ?_
    intro gr w5 hU5 hO5 hgr
    obtain ⟨inf, f1, f2, f3, f4⟩ := info_he
    have hP : Owns w5 (hl ++ ((gr, .cells (heV (l[i], m)).toArray 104 (0, 0)) :: (hh ++ (hS ++ F)))) := hO5.perm (by
      classical
      refine List.perm_iff_count.2 fun y => ?_
      simp only [List.count_cons, List.count_append]
      omega)
    have hrd : Rd w5 2 (.slice (some ⟨gr, 0, none⟩) 1 1) 1 (hesV [(l[i], m)]) := ⟨_, 1, rfl, Nat.le_refl _, hesV_len _, fun j u hu => ⟨_, rfl, cells_read (cs := (heV (l[i], m)).toArray) (hO5.at_ 0 rfl) j u (by simpa [hesV] using hu)⟩⟩
    have hmx : (1000001 : Nat) ≤ maxLen := by decide
    refine st_append u59 f1 f2 f3 f4 rfl (by omega) hr hP hU5 hm2 hrd (hesV_one _) (by omega) (by omega) ?_
    intro v6 w6 h6 hr6 hO6 hU6 hm6
    simp (disch := omega) only [e0, PX, w64]
    refine ⟨⟨i + 1, by omega, rfl, h6, ?_, ⟨hU6, hh, hTb, ?_, hmine⟩, hm6⟩, ?_⟩
    · have e : heldL T x (l.take (i + 1)) = heldL T x (l.take i) ++ [(l[i], m)] := by
        rw [hsucc]; unfold heldL; rw [List.filterMap_append]; simp [hhas, hm']
      rw [e, List.length_append, List.length_singleton]
      have : hesV (heldL T x (l.take i) ++ [(l[i], m)]) = hesV (heldL T x (l.take i)) ++ hesV [(l[i], m)] := by simp [hesV]
      rw [this]; exact hr6
    · refine (hO6.sub (List.Sublist.append_left (.cons _ (List.Sublist.refl _)) _)).perm ?_
      classical
      refine List.perm_iff_count.2 fun y => ?_
      simp only [List.count_append]
      omega
    · simp only [List.getD_cons_succ, List.getD_cons_zero, intOf]; omega
  · have hno : aGet n.held x = none := by
      cases hh : aGet n.held x with
      | none => rfl
      | some y => rw [hh] at his; cases his
    simp (disch := omega) only [e0, PX, w64]
    refine ⟨⟨i + 1, by omega, rfl, hl, ?_, hT, hm2⟩, ?_⟩
    · have e : heldL T x (l.take (i + 1)) = heldL T x (l.take i) := by
        rw [hsucc]; unfold heldL; rw [List.filterMap_append]; simp [hhas, hno]
      rw [e]; exact hr
    · simp only [List.getD_cons_succ, List.getD_cons_zero, intOf]; omega
end
end Go.Proofs.YtakifgecgmdjcaaGreat

/- Locks: steps that come in; short, led. -/
namespace Go.Proofs.YtakifgecgmdjcaaGreat
open Go Xf Go.RowKit
set_option linter.unusedVariables false
set_option linter.unusedSimpArgs false
set_option maxRecDepth 100000

structure LOp where
  kind : Int
  txn : Int
  want : Wt
def opV (o : LOp) : List Value := [.int .i64 o.kind, .int .i64 o.txn, strV o.want.name, .int .i64 o.want.mode]
def shortB (o : LOp) : Bool := decide (o.want.name.length ≤ 1000)
theorem short_spec (o : LOp) (w : World) : CallsR Tryz.prog 7 #[.agg (opV o).toArray] w fun u w' => u = .bool (shortB o) ∧ Upd w w' [] := by
  apply flotillalaw13_short_sound
  unfold flotillalaw13_short_x
  refine st_box (Upd.refl w []) (Owns.nil w) ?_
  intro b w1 hU hO hb
  have c2 : w1.cell? ⟨b, 2, none⟩ = some (strV o.want.name) := (cell_at (hO.at_ 0 rfl)).trans rfl
  simp (disch := first | assumption | omega) only [PX, LX, add_mk, Nat.reduceAdd, size_mk]
  refine ⟨?_, hU⟩
  unfold shortB
  congr 1
  rw [decide_eq_decide]; omega
/-- one of the steps -/
theorem op_at {W : World} {v : Value} {ops : List LOp} {i : Nat} (hr : RdS W opV 4 v ops) (hi : i < ops.length) : ∃ a c, v = .slice (some a) ops.length c ∧ ∀ w', Upd W w' [] → (∀ j u, (opV ops[i])[j]? = some u → w'.cell? (a.add (i * 4 + j)) = some u) := by
  obtain ⟨A, c, rfl, hm, hrd⟩ := hr
  obtain ⟨a, rfl, hx⟩ := Rd.row (f := opV) (k := 4) (fun _ => rfl) (by omega) hrd hi
  refine ⟨a, c, rfl, fun w' hU j u hu => ?_⟩
  have := hx w' hU j u hu
  rwa [show ((i : Nat) : Int).toNat = i by omega] at this
section
variable {w W : World} {a : Addr} {i : Nat} {o : LOp}
theorem op_load (h : ∀ j u, (opV o)[j]? = some u → w.cell? (a.add (i * 4 + j)) = some u) : (loadVar 33 (a.add (i * 4))).run Tryz.prog w = .ok (.agg (opV o).toArray) w :=
  run_loadVarN (cs := opV o) ag33 (by rw [sz33]; rfl) fun j v hj => by rw [add_add']; exact h j v hj
theorem op_want (h : ∀ j u, (opV o)[j]? = some u → w.cell? (a.add (i * 4 + j)) = some u) : (loadVar 31 (a.add (i * 4 + 2))).run Tryz.prog w = .ok (wtV o.want) w :=
  run_loadVarN (cs := [strV o.want.name, .int .i64 o.want.mode]) ag31 (by rw [sz31]; rfl) fun j v hj => by
    rw [add_add', Nat.add_assoc]
    refine h (2 + j) v ?_
    rw [← hj]
    match j with
    | 0 => rfl
    | 1 => rfl
    | j + 2 => simp [opV, show 2 + (j + 2) = j + 4 by omega]
end
/-- one step on a table -/
def stepT (T : Tb) (new : Nat) (o : LOp) : Tb :=
  if o.kind = 0 then (askT T new o.txn o.want).1 else if o.kind = 1 then (goneT T o.txn true).1 else if o.kind = 2 then (goneT T o.txn false).1 else T
def stepS (T : Tb) (new : Nat) (o : LOp) : Tb := if shortB o then stepT T new o else T
/-- tables behind steps -/
inductive Reach : List LOp → Tb → Prop
  | nil : Reach [] ⟨[], []⟩
  | snoc {l : List LOp} {T : Tb} (new : Nat) (o : LOp) : Reach l T → Reach (l ++ [o]) (stepS T new o)
theorem stepT_ok {T : Tb} {B : Nat} (new : Nat) (o : LOp) (h : okT T B) : okT (stepT T new o) (B + 1) := by
  unfold stepT
  split
  · exact askT_ok new _ _ h
  · split
    · exact (goneT_ok _ _ h).mono (Nat.le_succ B)
    · split
      · exact (goneT_ok _ _ h).mono (Nat.le_succ B)
      · exact h.mono (Nat.le_succ B)
theorem stepS_ok {T : Tb} {B : Nat} (new : Nat) (o : LOp) (h : okT T B) : okT (stepS T new o) (B + 1) := by
  unfold stepS
  split
  · exact stepT_ok new o h
  · exact h.mono (Nat.le_succ B)
theorem Reach.ok {l : List LOp} {T : Tb} (h : Reach l T) : okT T l.length := by
  induction h with
  | nil => exact okT.empty 0
  | snoc new o _ ih => rw [List.length_append, List.length_singleton]; exact stepS_ok new o ih
section
variable {W w w' : World} {F G : List (Nat × Obj)} {T : Tb} {g : Nat} {K : Value → World → Prop}
theorem ask_small {B : Nat} (hok : okT T B) (hB : B ≤ 500) (s : List UInt8) : ∀ q, aGet T.names s = some q → smallN q.2 := fun q hq => by
  have h1 := (hok.nm s q hq).1
  have h2 := (hok.nm s q hq).2.1
  exact ⟨by omega, by omega⟩
theorem led_spec {ops : List LOp} {v : Value} (hr : RdS W opV 4 v ops) (hU : Upd W w []) (hO : Owns w F) :
    CallsR Tryz.prog 14 #[v] w fun u w' => ∃ g T, u = .pointer (some ⟨g, 0, none⟩) ∧ W.heap.size ≤ g ∧ Reach (ops.take 60) T ∧ TbAt W [] F T g w' := by
  apply flotillalaw13_led_sound
  unfold flotillalaw13_led_x flotillalaw13_led_k1 flotillalaw13_led_k2
  refine st_call (New_spec hU hO) ?_
  rintro _ w1 ⟨g, rfl, hg, hT0⟩
  obtain ⟨A, c, rfl, hmax, -⟩ := id hr
  refine st_loop (fun vs w' => ∃ (i : Nat) (T : Tb), i ≤ ops.length ∧ i ≤ 60 ∧ vs.getD 0 undef = .int .i64 i ∧ Reach (ops.take i) T ∧ TbAt W [] F T g w') (fun vs _ => ops.length - (intOf (vs.getD 0 undef)).toNat) ⟨0, _, Nat.zero_le _, Nat.zero_le _, rfl, by rw [List.take_zero]; exact Reach.nil, hT0⟩ ?_
  rintro dv vs w2 - ⟨i, T, hi, hi60, e0, hR, hT⟩
  have hmx : ops.length ≤ 9223372036854775807 := Nat.le_trans hmax (by decide)
  simp (disch := first | assumption | omega) only [e0, PX, BX]
  refine ⟨fun hlt => ⟨fun hlt6 => ?_, fun hge6 => ?_⟩, fun hge => ?_⟩
  rotate_left
  · unfold flotillalaw13_led_k1
    obtain rfl : i = 60 := by omega
    exact ⟨g, T, rfl, hg, hR, hT⟩
  · obtain rfl : i = ops.length := by omega
    refine ⟨g, T, rfl, hg, ?_, hT⟩
    rw [List.take_length] at hR
    rw [List.take_of_length_le hi60]; exact hR
  have hi' : i < ops.length := by omega
  obtain ⟨a, c', hac, hcell⟩ := op_at hr hi'
  injection hac with q1 q2 q3
  subst q1
  have hR1 := fun new => Reach.snoc new ops[i] hR
  rw [← List.take_succ_eq_append_getElem hi'] at hR1
  have hok : okT T i := by have := hR.ok; rwa [List.length_take, Nat.min_eq_left hi] at this
  simp (disch := first | assumption | omega) only [PX]
  rw [step_run (run_sLoad (op_load (hcell w2 hT.1)))]
  refine st_call (short_spec ops[i] w2) ?_
  rintro _ w3 ⟨rfl, hU3⟩
  have hT3 := hT.upd hU3
  have again : ∀ {w' : World} {T' : Tb}, Reach (ops.take (i + 1)) T' → TbAt W [] F T' g w' → ∀ Q, flotillalaw13_led_k3 (std Tryz.prog) vs (fun vs' w' => (∃ (i : Nat) (T : Tb), i ≤ ops.length ∧ i ≤ 60 ∧ vs'.getD 0 undef = .int .i64 i ∧ Reach (ops.take i) T ∧ TbAt W [] F T g w') ∧ ops.length - (intOf (vs'.getD 0 undef)).toNat < ops.length - (intOf (Value.int .i64 i)).toNat) w' Q := fun {w'} {T'} hR' hT' Q => by
    unfold flotillalaw13_led_k3
    simp (disch := omega) only [e0, PX, w64]
    refine ⟨⟨i + 1, T', by omega, by omega, rfl, hR', hT'⟩, ?_⟩
    simp only [List.getD_cons_zero, intOf]; omega
  simp only [PX]
  rw [bool_var]
  refine ⟨fun hs => ?_, fun hs => ?_⟩
  · have hs : shortB ops[i] = false := by simpa using hs
    refine again ?_ hT3 _
    have := hR1 0
    unfold stepS at this
    rwa [if_neg (by rw [hs]; exact Bool.false_ne_true)] at this
  have hs : shortB ops[i] = true := by simpa using hs
  have hst : ∀ new, stepS T new ops[i] = stepT T new ops[i] := fun new => by unfold stepS; rw [if_pos hs]
  simp only [hst] at hR1
  have k0 := hcell w3 hT3.1 0 _ rfl
  have k1 := hcell w3 hT3.1 1 _ rfl
  simp (disch := first | assumption | omega) only [PX, BX, LX, add_add']
  unfold stepT at hR1
  refine ⟨fun hk0 => ?_, fun hk0 => ⟨fun hk1 => ?_, fun hk1 => ⟨fun hk2 => ?_, fun hk2 => ?_⟩⟩⟩
  · simp only [if_pos hk0] at hR1
    have hTd := hT3.upd (Upd.drew w3 [])
    have hne : ∃ w', (fun w' => Upd W w' []) w' := ⟨_, hTd.1⟩
    have s1 : ∀ w', Upd W w' [] → w'.cell? (a.add (i * 4 + 1)) = some (.int .i64 ops[i].txn) := fun w' h => hcell w' h 1 _ rfl
    refine st_draw (fun w' => Upd W w' []) hTd.1 ?_
    simp (disch := first | exact hne | assumption | omega) only [SX, SLX, add_add']
    rw [stepS_run hne fun w' hw => run_sLoad (op_want (hcell w' hw))]
    refine st_call (Ask_spec hTd _ _ (ask_small hok (by omega) _) (by unfold shortB at hs; simp at hs; omega)) ?_
    rintro _ w4 ⟨new, rfl, hT4⟩
    exact st_keepT (fun _ => True) trivial (again (hR1 new) hT4 _)
  · simp only [if_neg hk0, if_pos hk1] at hR1
    refine st_call (Free_spec hT3 hok (by omega) _) ?_
    intro _ w4 hG
    exact again (hR1 0) hG.tb _
  · simp only [if_neg hk0, if_neg hk1, if_pos hk2] at hR1
    refine st_call (Cancel_spec hT3 hok (by omega) _) ?_
    intro _ w4 hG
    exact again (hR1 0) hG.tb _
  · simp only [if_neg hk0, if_neg hk1, if_neg hk2] at hR1
    exact again (hR1 0) hT3 _
end
end Go.Proofs.YtakifgecgmdjcaaGreat

/- Locks: lives. -/
namespace Go.Proofs.YtakifgecgmdjcaaGreat
open Go Xf Go.RowKit
set_option linter.unusedVariables false
set_option linter.unusedSimpArgs false
set_option maxRecDepth 100000

def lv1 (n : Nat) : Tb := ⟨[([97], (n, ⟨[(1, 3)], [], []⟩))], []⟩
def lv2 (n : Nat) : Tb := ⟨[([97], (n, ⟨[(1, 3)], [], [2]⟩))], [(2, ⟨[97], 5⟩)]⟩
def lv3 (n : Nat) : Tb := ⟨[([97], (n, ⟨[(1, 3)], [], [2, 3]⟩))], [(2, ⟨[97], 5⟩), (3, ⟨[97], 3⟩)]⟩
theorem lv1_eq (n : Nat) : askT ⟨[], []⟩ n 1 ⟨[97], 3⟩ = (lv1 n, true, 0) := by rfl
theorem lv2_eq (n m : Nat) : askT (lv1 n) m 2 ⟨[97], 5⟩ = (lv2 n, false, 0) := by rfl
theorem lv3_eq (n m : Nat) : askT (lv2 n) m 3 ⟨[97], 3⟩ = (lv3 n, false, 0) := by rfl
theorem lv4_eq (n : Nat) : (goneT (lv3 n) 1 true).2 = [(2, ⟨[97], 5⟩)] := by
  unfold goneT
  have : sortS ((lv3 n).names.map (·.1)) = [[97]] := by simp [sortS, lv3]
  rw [this]
  rfl
theorem build_want (a : UInt8) (m : Int) (w : World) : (sBuild 31 [(0, .string ⟨#[a]⟩), (1, .int .i64 m)]).run Tryz.prog w = .ok (.value (wtV ⟨[a], m⟩)) w := by kernel_rfl
theorem ok_lv {T : Tb} {l : List LOp} (h : Reach l T) (hl : l.length ≤ 500) : okT T 500 := h.ok.mono hl
section
variable {W w w' : World} {F G : List (Nat × Obj)} {T : Tb} {g : Nat} {K : Value → World → Prop}
theorem lives_spec (hU : Upd W w []) (hO : Owns w F) : CallsR Tryz.prog 8 #[] w fun u w' => u = .bool true ∧ Upd W w' [] := by
  apply flotillalaw13_lives_sound
  unfold flotillalaw13_lives_x
  refine st_call (New_spec hU hO) ?_
  rintro _ w1 ⟨g, rfl, hg, h1⟩
  simp (disch := first | assumption | omega) only [PX, BX]
  rw [step_run (build_want _ _ _)]
  have ok1 : okT (⟨[], []⟩ : Tb) 0 := okT.empty 0
  refine st_call (Ask_spec h1 1 ⟨[97], 3⟩ (ask_small ok1 (by omega) _) (by simp)) ?_
  rintro _ w2 ⟨n, rfl, h2⟩
  have ok2 := askT_ok n 1 ⟨[97], 3⟩ ok1
  rw [lv1_eq] at h2 ok2 ⊢
  unfold askV
  simp (disch := first | assumption | omega) only [PX]
  rw [step_run (build_want _ _ _)]
  refine st_call (Ask_spec h2 2 ⟨[97], 5⟩ (ask_small ok2 (by omega) _) (by simp)) ?_
  rintro _ w3 ⟨m, rfl, h3⟩
  have ok3 := askT_ok m 2 ⟨[97], 5⟩ ok2
  rw [lv2_eq] at h3 ok3 ⊢
  unfold askV
  simp (disch := first | assumption | omega) only [PX]
  rw [step_run (build_want _ _ _)]
  refine st_call (Ask_spec h3 3 ⟨[97], 3⟩ (ask_small ok3 (by omega) _) (by simp)) ?_
  rintro _ w4 ⟨m', rfl, h4⟩
  have ok4 := askT_ok m' 3 ⟨[97], 3⟩ ok3
  rw [lv3_eq] at h4 ok4 ⊢
  unfold askV
  simp (disch := first | assumption | omega) only [PX]
  refine st_call (Free_spec h4 ok4 (by omega) 1) ?_
  rintro u w5 ⟨hl, hr, hT, -⟩
  rw [lv4_eq] at hr
  have hrd := hr.rd (F := F) hT.owns
  obtain ⟨A, c, rfl, hc, -, hx⟩ := hrd
  obtain ⟨a, rfl, ha⟩ := hx 0 (.int .i64 2) rfl
  obtain ⟨a', ha', hb⟩ := hx 2 (.int .i64 5) rfl
  injection ha' with ha'
  subst ha'
  simp (disch := first | assumption | omega) only [PX, BX, LX, List.length_singleton, if_true]
  refine ⟨fun _ => ⟨fun _ => ⟨fun _ => ⟨fun _ => ?_, fun h => absurd rfl h⟩, fun h => absurd trivial h⟩, fun h => absurd trivial h⟩, fun h => absurd trivial h⟩
  have hi : (sIndexAddr 50 (.slice (some a) 1 c) (.int .i64 0)).run Tryz.prog w5 = .ok (.value (.pointer (some (a.add 0)))) w5 := run_idxS (i := 0) u50 sz53 (by omega) (by omega)
  rw [step_run hi]
  simp (disch := first | assumption | omega) only [PX, BX, LX, add_add', Nat.zero_add]
  refine ⟨fun _ => ?_, fun h => absurd trivial h⟩
  rw [step_run hi]
  simp (disch := first | assumption | omega) only [PX, BX, LX, add_add', Nat.zero_add, Nat.reduceAdd]
  exact ⟨rfl, hT.1⟩
end
end Go.Proofs.YtakifgecgmdjcaaGreat

/- Locks: what one has stays. -/
namespace Go.Proofs.YtakifgecgmdjcaaGreat
open Go Xf Go.RowKit
set_option linter.unusedVariables false
set_option linter.unusedSimpArgs false
set_option maxRecDepth 100000

def LeM (a b : Option Int) : Prop := ∀ m, a = some m → ∃ m', b = some m' ∧ cov (sureN m') (sureN m) = true
theorem cov_refl {i : Nat} (h : i < 6) : cov i i = true := all1 (p := fun i => cov i i) (by decide +kernel) h
theorem cov_joi {i j : Nat} (hi : i < 6) (hj : j < 6) : cov (joi i j) i = true := all2 (p := fun i j => cov (joi i j) i) (by decide +kernel) hi hj
theorem cov_trans {i j k : Nat} (hi : i < 6) (hj : j < 6) (hk : k < 6) (h1 : cov i j = true) (h2 : cov j k = true) : cov i k = true := by
  have := all3 (p := fun i j k => !cov i j || !cov j k || cov i k) (by decide +kernel) hi hj hk
  rw [h1, h2] at this
  simpa using this
theorem sureN_small {k : Nat} (h : k < 6) : sureN (k : Int) = k := by unfold sureN; rw [if_pos (by omega)]; omega
theorem LeM.refl (a : Option Int) : LeM a a := fun m h => ⟨m, h, cov_refl (sureN_lt m)⟩
theorem LeM.trans {a b c : Option Int} (h1 : LeM a b) (h2 : LeM b c) : LeM a c := fun m h => by
  obtain ⟨m1, e1, c1⟩ := h1 m h
  obtain ⟨m2, e2, c2⟩ := h2 m1 e1
  exact ⟨m2, e2, cov_trans (sureN_lt _) (sureN_lt _) (sureN_lt _) c2 c1⟩
theorem LeM.none (b : Option Int) : LeM none b := fun m h => by cases h
theorem LeM.would {n : Nm} {x m : Int} : LeM (aGet n.held x) (some (wouldN n x m)) := fun m0 h => by
  refine ⟨_, rfl, ?_⟩
  unfold wouldN
  rw [h, Option.getD_some, sureN_small (joi_lt (sureN_lt _) (sureN_lt _))]
  exact cov_joi (sureN_lt _) (sureN_lt _)
theorem LeM.set {n : Nm} {k m : Int} (x : Int) : LeM (aGet n.held x) (aGet (aSet n.held k (wouldN n k m)) x) := by
  rw [aGet_aSet]
  split
  · rename_i h; subst h; exact LeM.would
  · exact LeM.refl _
theorem passN_le (x : Int) : ∀ (k : Nat) (n : Nm) (ws : List (Int × Wt)), LeM (aGet n.held x) (aGet (passN k n ws).1.held x)
  | 0, n, ws => LeM.refl _
  | k + 1, n, ws => by
    unfold passN
    split
    · exact LeM.refl _
    · split
      · exact (LeM.set x).trans (passN_le x k { leaveN n (firstN n) with held := aSet n.held (firstN n) (wouldN n (firstN n) ((aGet ws (firstN n)).getD ⟨[], 0⟩).mode) } (aDel ws (firstN n)))
      · exact LeM.refl _
theorem hasT_put (T : Tb) (s s' : List UInt8) (q : Nat × Nm) (x : Int) : hasT (putN T s q) x s' = if s' = s then aGet q.2.held x else hasT T x s' := by
  unfold hasT putN
  rw [aGet_aSet]
  split <;> rfl
theorem passT_le {T : Tb} {s : List UInt8} {q : Nat × Nm} (hk : Keys1 T.names) (hq : aGet T.names s = some q) (x : Int) (s' : List UInt8) : LeM (hasT T x s') (hasT (passT T s q).1 x s') := by
  have h1 := passN_le x (q.2.turns.length + q.2.row.length) q.2 T.waits
  have hT : hasT T x s = aGet q.2.held x := by unfold hasT; rw [hq]; rfl
  unfold passT
  generalize passN (q.2.turns.length + q.2.row.length) q.2 T.waits = r at h1
  by_cases hz : r.1.held.length = 0
  · simp only [hz, if_true]
    have hnil : r.1.held = [] := List.eq_nil_of_length_eq_zero hz
    unfold hasT at hT ⊢
    rw [aGet_aDel hk]
    by_cases hs : s' = s
    · subst hs
      rw [if_pos rfl, hT]
      rw [hnil, aGet_nil] at h1
      exact h1
    · rw [if_neg hs]; exact LeM.refl _
  · simp only [hz, if_false]
    have := hasT_put T s s' (q.1, r.1) x
    unfold putN at this
    have e : hasT ⟨aSet T.names s (q.1, r.1), r.2.1⟩ x s' = hasT ⟨aSet T.names s (q.1, r.1), T.waits⟩ x s' := rfl
    rw [e, this]
    split
    · rename_i hs; subst hs; rw [hT]; exact h1
    · exact LeM.refl _
theorem goneS_le {T : Tb} {s : List UInt8} {q : Nat × Nm} (hk : Keys1 T.names) (hq : aGet T.names s = some q) (txn : Int) (all : Bool) (x : Int) (hx : all = true → x ≠ txn) (s' : List UInt8) : LeM (hasT T x s') (hasT (goneS T s q txn all).1 x s') := by
  have hT : hasT T x s = aGet q.2.held x := by unfold hasT; rw [hq]; rfl
  have hput : ∀ n : Nm, aGet n.held x = aGet q.2.held x → LeM (hasT T x s') (hasT (putN T s (q.1, n)) x s') := fun n hn => by
    rw [hasT_put]
    split
    · rename_i hs; subst hs; rw [hT, ← hn]; exact LeM.refl _
    · exact LeM.refl _
  have dl : ∀ (l : List (Int × Int)), x ≠ txn → aGet (aDel l txn) x = aGet l x := fun l hne => by
    induction l with
    | nil => rfl
    | cons p l ih =>
      rw [aDel_cons, aGet_cons]
      split
      · rename_i h; rw [if_neg (by rw [← h]; exact hne)]
      · rw [aGet_cons, ih]
  unfold goneS
  split
  · rename_i hc
    simp only [Bool.and_eq_true] at hc
    refine (hput _ (dl _ (hx hc.2))).trans (passT_le hk.set (get_putN _ _ _) x s')
  · split
    · exact (hput (leaveN q.2 txn) rfl).trans (passT_le hk.set (get_putN _ _ _) x s')
    · exact hput (leaveN q.2 txn) rfl
theorem goneL_le {B : Nat} (txn : Int) (all : Bool) (x : Int) (hx : all = true → x ≠ txn) (s' : List UInt8) : ∀ (l : List (List UInt8)) (T : Tb), okT T B → LeM (hasT T x s') (hasT (goneL txn all l T).1 x s')
  | [], T, h => LeM.refl _
  | s :: l, T, h => by
    unfold goneL
    split
    · exact goneL_le txn all x hx s' l T h
    · rename_i q hq
      exact (goneS_le h.keys hq txn all x hx s').trans (goneL_le txn all x hx s' l _ (goneS_ok txn all h hq).1)
theorem goneT_le {T : Tb} {B : Nat} (h : okT T B) (txn : Int) (all : Bool) (x : Int) (hx : all = true → x ≠ txn) (s' : List UInt8) : LeM (hasT T x s') (hasT (goneT T txn all).1 x s') :=
  goneL_le txn all x hx s' _ ⟨T.names, aDel T.waits txn⟩ ⟨h.keys, h.wkeys.del, h.len, h.short, h.nm⟩
theorem askT_le (T : Tb) (new : Nat) (txn : Int) (v : Wt) (x : Int) (s' : List UInt8) : LeM (hasT T x s') (hasT (askT T new txn v).1 x s') := by
  unfold askT
  split
  · split
    · exact LeM.refl _
    · have hq : LeM (hasT T x v.name) (aGet ((aGet T.names v.name).getD (new, noNm)).2.held x) := by
        unfold hasT
        cases aGet T.names v.name with
        | none => exact LeM.none _
        | some q => exact LeM.refl _
      generalize (aGet T.names v.name).getD (new, noNm) = q at hq
      show LeM _ (hasT (askAt T q txn v).1 x s')
      have hput : ∀ n : Nm, LeM (aGet q.2.held x) (aGet n.held x) → LeM (hasT T x s') (hasT (putN T v.name (q.1, n)) x s') := fun n hn => by
        rw [hasT_put]
        split
        · rename_i hs; subst hs; exact hq.trans hn
        · exact LeM.refl _
      unfold askAt
      split
      · exact hput q.2 (LeM.refl _)
      · split
        · exact hput (giveN q.2 txn v.mode) (LeM.set x)
        · have hqu : (queueN q.2 txn).held = q.2.held := by unfold queueN; split <;> rfl
          exact hput (queueN q.2 txn) (by rw [hqu]; exact LeM.refl _)
  · exact LeM.refl _
theorem stepT_le {T : Tb} {B : Nat} (h : okT T B) (new : Nat) (o : LOp) (x : Int) (hx : ¬ (o.kind = 1 ∧ o.txn = x)) (s' : List UInt8) : LeM (hasT T x s') (hasT (stepT T new o) x s') := by
  unfold stepT
  split
  · exact askT_le _ _ _ _ _ _
  · split
    · rename_i h1 h2
      exact goneT_le h _ _ _ (fun _ he => hx ⟨h2, he.symm⟩) _
    · split
      · exact goneT_le h _ _ _ (fun hh => by cases hh) _
      · exact LeM.refl _
theorem mem_heldT {T : Tb} {x : Int} {p : He} : p ∈ heldT T x ↔ hasT T x p.1 = some p.2 := by
  unfold heldT heldL
  rw [List.mem_filterMap]
  constructor
  · rintro ⟨s, hs, he⟩
    cases hh : hasT T x s with
    | none => rw [hh] at he; cases he
    | some m => rw [hh] at he; simp at he; subst he; exact hh
  · intro hh
    refine ⟨p.1, ?_, by rw [hh]; rfl⟩
    rw [(sortS_perm _).mem_iff]
    cases hg : aGet T.names p.1 with
    | none => unfold hasT at hh; rw [hg] at hh; cases hh
    | some q => exact aGet_key hg
theorem heldT_len {T : Tb} {B : Nat} (h : okT T B) (x : Int) : (heldT T x).length ≤ B := by
  have h1 := List.length_filterMap_le (fun s => (hasT T x s).map fun m => (s, m)) (sortS (T.names.map (·.1)))
  rw [(sortS_perm _).length_eq, List.length_map] at h1
  exact Nat.le_trans h1 h.len
/-- what was there is there -/
theorem kept_of_le {T T' : Tb} {x : Int} (h : ∀ s, LeM (hasT T x s) (hasT T' x s)) {p : He} (hp : p ∈ heldT T x) : ∃ p' ∈ heldT T' x, p'.1 = p.1 ∧ cov (sureN p'.2) (sureN p.2) = true := by
  obtain ⟨m', h1, h2⟩ := h p.1 p.2 (mem_heldT.1 hp)
  exact ⟨(p.1, m'), mem_heldT.2 h1, rfl, h2⟩
end Go.Proofs.YtakifgecgmdjcaaGreat

/- Locks: LockStays. -/
namespace Go.Proofs.YtakifgecgmdjcaaGreat
open Go Xf Go.RowKit
set_option linter.unusedVariables false
set_option linter.unusedSimpArgs false
set_option maxRecDepth 100000

theorem he_at {w : World} {v : Value} {l : List He} {i : Nat} (hr : RdS w heV 2 v l) (hi : i < l.length) : ∃ a c, v = .slice (some a) l.length c ∧ ∀ w', Upd w w' [] → w'.cell? (a.add (i * 2 + 0)) = some (strV l[i].1) ∧ w'.cell? (a.add (i * 2 + 1)) = some (.int .i64 l[i].2) := by
  obtain ⟨A, c, rfl, hm, hrd⟩ := hr
  obtain ⟨a, rfl, hx⟩ := Rd.row (f := heV) (k := 2) (fun _ => rfl) (by omega) hrd hi
  have e : ((i : Nat) : Int).toNat = i := by omega
  rw [e] at hx
  exact ⟨a, c, rfl, fun w' hU => ⟨hx w' hU 0 _ rfl, hx w' hU 1 _ rfl⟩⟩
theorem he_len {w : World} {v : Value} {l : List He} (hr : RdS w heV 2 v l) : ∃ A c, v = .slice A l.length c := by
  obtain ⟨A, c, rfl, -⟩ := hr; exact ⟨A, c, rfl⟩
theorem RowH.he {w : World} {v : Value} {l : List He} {h F : List (Nat × Obj)} (hr : RowH 104 2 v l.length (hesV l) h) (hO : Owns w (h ++ F)) (hl : l.length ≤ 1000) : RdS w heV 2 v l := by
  obtain ⟨A, c, rfl⟩ := RowH.sl' hr
  exact ⟨A, c, rfl, Nat.le_trans hl (by decide), hr.rd hO⟩
section
variable {W w w' : World} {F G : List (Nat × Obj)} {T T' : Tb} {g : Nat} {K : Value → World → Prop}
end
end Go.Proofs.YtakifgecgmdjcaaGreat

/- Locks: LockStays, put together. -/
namespace Go.Proofs.YtakifgecgmdjcaaGreat
open Go Xf Go.RowKit
set_option linter.unusedVariables false
set_option linter.unusedSimpArgs false
set_option maxRecDepth 100000

section
variable {W w w' : World} {F G : List (Nat × Obj)} {T T' : Tb} {g : Nat} {K : Value → World → Prop}
end
end Go.Proofs.YtakifgecgmdjcaaGreat

/- Locks: steps that are handed in. -/
namespace Go.Proofs.YtakifgecgmdjcaaGreat
open Go Xf Go.RowKit Go.ChangeShapes Go.WideShapes Go.Deep
set_option linter.unusedVariables false
set_option linter.unusedSimpArgs false
set_option maxRecDepth 100000

section
variable {H : Type} {enc : TypeId × Value → H} {held : Bool} {w : World}
theorem op_of_cells {fuel : Nat} {l : List Value} {x : DataW H × List MemPlace} (hf : DataW.trod enc Tryz.prog w 0 (fun _ => true) held fuel 33 l = some x) : ∃ o : LOp, l = opV o ∧ in64 o.kind ∧ in64 o.txn ∧ in64 o.want.mode := by
  obtain ⟨xs, n, _, hx, hl, hlen, hg⟩ := Go.DataW.trod_struct Tryz.underlying33 hf
  rw [show Tryz.prog.cellsOf 33 = 4 by kernel_rfl] at hl
  match xs, hlen with
  | [x0, x1, x2], _ =>
  match l, hl with
  | [a0, a1, a2, a3], _ =>
  have c1 : ∀ {t : TypeId}, t = 3 ∨ t = 9 ∨ t = 29 → Tryz.prog.cellsOf t = 1 := by
    rintro t (rfl | rfl | rfl) <;> kernel_rfl
  have k0 : DataW.trod enc Tryz.prog w 0 (fun _ => true) held n 3 [a0] = some x0 := by simpa [c1] using hg 0 _ rfl
  have k1 : DataW.trod enc Tryz.prog w 0 (fun _ => true) held n 3 [a1] = some x1 := by simpa [c1] using hg 1 _ rfl
  have k2 : DataW.trod enc Tryz.prog w 0 (fun _ => true) held n 31 [a2, a3] = some x2 := by simpa [c1, show Tryz.prog.cellsOf 31 = 2 by kernel_rfl] using hg 2 _ rfl
  obtain ⟨n0, e0, _, w0⟩ := Go.DataW.trod_int Tryz.underlying3 k0
  obtain ⟨n1, e1, _, w1⟩ := Go.DataW.trod_int Tryz.underlying3 k1
  obtain ⟨ys, m, _, hy, _, hyl, hh⟩ := Go.DataW.trod_struct Tryz.underlying31 k2
  match ys, hyl with
  | [y0, y1], _ =>
  have j0 : DataW.trod enc Tryz.prog w 0 (fun _ => true) held m 9 [a2] = some y0 := by simpa [c1] using hh 0 _ rfl
  have j1 : DataW.trod enc Tryz.prog w 0 (fun _ => true) held m 29 [a3] = some y1 := by simpa [c1] using hh 1 _ rfl
  obtain ⟨s, e2, _⟩ := Go.DataW.trod_string Tryz.underlying9 j0
  obtain ⟨n3, e3, _, w3⟩ := Go.DataW.trod_int Tryz.underlying29 j1
  simp only [List.cons.injEq, and_true] at e0 e1 e2 e3
  subst e0 e1 e2 e3
  obtain ⟨s, rfl⟩ := mk_surj s
  exact ⟨⟨n0, n1, s, n3⟩, rfl, in64_wf w0, in64_wf w1, in64_wf w3⟩
def okO (o : LOp) : Prop := in64 o.kind ∧ in64 o.txn ∧ in64 o.want.mode
theorem ops_of_trod {r : Go.Reach} {b0 : Nat} {v : Value} {d : DataW H} {p : List MemPlace} (hv : Value.okWide Tryz.prog w r b0 22 v) (h : DataW.Trod enc Tryz.prog w 0 (fun _ => true) held 22 v d p) :
    ∃ x : List LOp, v = v ∧ RdS w opV 4 v x ∧ ∀ o ∈ x, okO o := by
  obtain ⟨A, len, cap, rfl⟩ := okWide_slice Tryz.underlying22 hv
  obtain ⟨fuel, hf⟩ := h
  rcases Go.Deep.open_slice Tryz.underlying22 hf with ⟨hcs, _⟩ | ⟨a, len', cap', m, n, D, Pl, hcs, hb, hl, hm, hmm, hx, hi⟩
  · simp [Value.cells] at hcs
    obtain ⟨rfl, rfl, rfl⟩ := hcs
    exact ⟨[], rfl, ⟨none, 0, rfl, Nat.zero_le _, Rd.nil_ _ _⟩, fun o h => by cases h⟩
  · simp [Value.cells] at hcs
    obtain ⟨rfl, rfl, rfl⟩ := hcs
    simp at hmm
    have key : ∀ i, i < len → ∃ o : LOp, okO o ∧ ∀ j u, (opV o)[j]? = some u → w.cell? (a.add (i * 4 + j)) = some u := by
      intro i hil
      obtain ⟨cs', hc, ht'⟩ := hi i (by omega)
      rw [show Tryz.prog.cellsOf 33 = 4 by kernel_rfl] at hc
      obtain ⟨_, hcl, hat⟩ := World.cells?_some hc
      obtain ⟨o, rfl, h1⟩ := op_of_cells ht'
      refine ⟨o, h1, fun j u hu => ?_⟩
      have hj : j < 4 := (List.getElem?_eq_some_iff.1 hu).1
      rw [← add_add', hat j hj, ← hu]
    have hL : ∀ n, n ≤ len → ∃ L : List LOp, L.length = n ∧ ∀ i (hi : i < L.length), okO L[i] ∧ ∀ j u, (opV L[i])[j]? = some u → w.cell? (a.add (i * 4 + j)) = some u := by
      intro n
      induction n with
      | zero => exact fun _ => ⟨[], rfl, fun i hi => by simp at hi⟩
      | succ n ih =>
        intro hn
        obtain ⟨L, hl, h⟩ := ih (by omega)
        obtain ⟨o, ho⟩ := key n (by omega)
        refine ⟨L ++ [o], by simp [hl], fun i hi => ?_⟩
        by_cases hin : i < L.length
        · simpa [List.getElem_append_left hin] using h i hin
        · have : i = L.length := by simp at hi; omega
          subst this
          simpa [hl] using ho
    obtain ⟨L, rfl, h⟩ := hL len (Nat.le_refl _)
    refine ⟨L, rfl, ⟨some a, cap, rfl, by omega, some a, cap, rfl, hl, flat_len opV 4 (fun _ => rfl) L, fun j u hu => ⟨a, rfl, ?_⟩⟩, fun o ho => ?_⟩
    · have hj : j < L.length * 4 := by
        have := (List.getElem?_eq_some_iff.1 hu).1
        rwa [flat_len opV 4 (fun _ => rfl)] at this
      have hq : j / 4 < L.length := by omega
      have e : j = j / 4 * 4 + j % 4 := by omega
      rw [e] at hu ⊢
      rw [flat_at opV 4 (fun _ => rfl) L _ hq _ (by omega)] at hu
      exact (h _ hq).2 _ u hu
    · obtain ⟨i, hi, rfl⟩ := List.mem_iff_getElem.1 ho
      exact (h i hi).1
theorem op_of_trod {r : Go.Reach} {b0 : Nat} {v : Value} {d : DataW H} {p : List MemPlace} (hv : Value.okWide Tryz.prog w r b0 33 v) (h : DataW.Trod enc Tryz.prog w 0 (fun _ => true) held 33 v d p) :
    ∃ o : LOp, v = v ∧ v = .agg (opV o).toArray ∧ okO o := by
  obtain ⟨cs, rfl, hsz⟩ := okWide_struct Tryz.underlying33 hv
  obtain ⟨fuel, hf⟩ := h
  obtain ⟨o, ho, h1⟩ := op_of_cells hf
  refine ⟨o, rfl, ?_, h1⟩
  obtain ⟨l⟩ := cs
  have : l = opV o := ho
  rw [this]
end
end Go.Proofs.YtakifgecgmdjcaaGreat

/- Locks: what holds of every table. -/
namespace Go.Proofs.YtakifgecgmdjcaaGreat
open Go Xf Go.RowKit
set_option linter.unusedVariables false
set_option linter.unusedSimpArgs false
set_option maxRecDepth 100000

def rowsN (n : Nm) : List Int := n.turns ++ n.row
def GoodW (n : Nm) (x : Int) (w : Wt) : Prop := 1 ≤ x ∧ in64 x ∧ 1 ≤ w.mode ∧ w.mode ≤ 5 ∧ ∀ h, aGet n.held x = some h → cov (sureN h) (sureN w.mode) = false
structure GoodN (ws : List (Int × Wt)) (s : List UInt8) (n : Nm) : Prop where
  held1 : ∀ x m, aGet n.held x = some m → 1 ≤ x ∧ in64 x ∧ 1 ≤ m ∧ m ≤ 5
  bes : ∀ x y mx my, aGet n.held x = some mx → aGet n.held y = some my → x ≠ y → bes (sureN mx) (sureN my) = true
  rows : ∀ x ∈ rowsN n, ∃ w, aGet ws x = some w ∧ w.name = s ∧ GoodW n x w
  nodup : (rowsN n).Nodup
  turns : ∀ x ∈ n.turns, (aGet n.held x).isSome = true
  row : ∀ x ∈ n.row, aGet n.held x = none
theorem bes_symm {i j : Nat} (hi : i < 6) (hj : j < 6) (h : bes i j = true) : bes j i = true := by
  have := all2 (p := fun i j => bes i j == bes j i) (by decide +kernel) hi hj
  simp only [beq_iff_eq] at this
  rw [← this]; exact h
theorem wouldN_range {n : Nm} {x m : Int} (h1 : 1 ≤ m) (h5 : m ≤ 5) : 1 ≤ wouldN n x m ∧ wouldN n x m ≤ 5 := by
  unfold wouldN
  have hm : 1 ≤ sureN m := by unfold sureN; rw [if_pos (by omega)]; omega
  have hlt := joi_lt (sureN_lt ((aGet n.held x).getD 0)) (sureN_lt m)
  have : 1 ≤ joi (sureN ((aGet n.held x).getD 0)) (sureN m) := by unfold joi; split <;> omega
  omega
theorem rowsN_leave (n : Nm) (x : Int) : rowsN (leaveN n x) = outN (rowsN n) x := by
  unfold rowsN leaveN outN; rw [List.filter_append]
theorem mem_outN {l : List Int} {x y : Int} : y ∈ outN l x ↔ y ∈ l ∧ y ≠ x := by
  unfold outN; rw [List.mem_filter]; simp
theorem goesB_mem {n : Nm} {x m : Int} (h : goesB n x m = true) {y my : Int} (hy : aGet n.held y = some my) (hne : y ≠ x) : bes (sureN my) (sureN m) = true := by
  have := List.all_eq_true.1 h (y, my) (aGet_mem hy)
  simpa [hne] using this
/-- somebody goes in -/
theorem GoodN.give {ws ws' : List (Int × Wt)} {s : List UInt8} {n n' : Nm} {x m : Int} (h : GoodN ws s n) (hx : 1 ≤ x) (hx64 : in64 x) (h1 : 1 ≤ m) (h5 : m ≤ 5) (hgo : goesB n x (wouldN n x m) = true)
    (hh : n'.held = aSet n.held x (wouldN n x m)) (ht : ∀ y, y ∈ n'.turns → y ∈ n.turns ∧ y ≠ x) (hr : ∀ y, y ∈ n'.row → y ∈ n.row ∧ y ≠ x) (hnd : (rowsN n').Nodup) (hws : ∀ y w, y ≠ x → aGet ws y = some w → aGet ws' y = some w) : GoodN ws' s n' := by
  have hr1 := wouldN_range (n := n) (x := x) h1 h5
  have ne : ∀ y, y ≠ x → aGet n'.held y = aGet n.held y := fun y hy => by rw [hh, aGet_aSet, if_neg hy]
  have eq : aGet n'.held x = some (wouldN n x m) := by rw [hh, aGet_aSet, if_pos rfl]
  refine ⟨fun y my hy => ?_, fun y z my mz hy hz hne => ?_, fun y hy => ?_, hnd, fun y hy => ?_, fun y hy => ?_⟩
  · by_cases he : y = x
    · subst he; rw [eq] at hy; injection hy with hy; subst hy; exact ⟨hx, hx64, hr1.1, hr1.2⟩
    · rw [ne y he] at hy; exact h.held1 y my hy
  · by_cases he : y = x
    · subst he
      rw [eq] at hy; injection hy with hy; subst hy
      rw [ne z (Ne.symm hne)] at hz
      exact bes_symm (sureN_lt _) (sureN_lt _) (goesB_mem hgo hz (Ne.symm hne))
    · rw [ne y he] at hy
      by_cases hez : z = x
      · subst hez
        rw [eq] at hz; injection hz with hz; subst hz
        exact goesB_mem hgo hy he
      · rw [ne z hez] at hz; exact h.bes y z my mz hy hz hne
  · have hy' : y ∈ rowsN n ∧ y ≠ x := by
      rcases List.mem_append.1 hy with hy | hy
      · exact ⟨List.mem_append_left _ (ht y hy).1, (ht y hy).2⟩
      · exact ⟨List.mem_append_right _ (hr y hy).1, (hr y hy).2⟩
    obtain ⟨w, e1, e2, e3, e4, e5, e6, e7⟩ := h.rows y hy'.1
    exact ⟨w, hws y w hy'.2 e1, e2, e3, e4, e5, e6, fun hm hhm => e7 hm (by rw [← ne y hy'.2]; exact hhm)⟩
  · rw [ne y (ht y hy).2]; exact h.turns y (ht y hy).1
  · rw [ne y (hr y hy).2]; exact h.row y (hr y hy).1
theorem outN_nodup {l : List Int} (h : l.Nodup) (x : Int) : (outN l x).Nodup := h.sublist List.filter_sublist
/-- who goes in, one behind the other -/
theorem passN_good {s : List UInt8} : ∀ (k : Nat) (n : Nm) (ws : List (Int × Wt)), GoodN ws s n → Keys1 ws → n.turns.length + n.row.length ≤ k →
    GoodN (passN k n ws).2.1 s (passN k n ws).1 ∧ Keys1 (passN k n ws).2.1 ∧ (∀ y w, aGet (passN k n ws).2.1 y = some w → aGet ws y = some w) ∧ (∀ y w, aGet ws y = some w → w.name ≠ s → aGet (passN k n ws).2.1 y = some w) ∧
      (∀ y w, y ∈ rowsN n → aGet (passN k n ws).2.1 y = some w → y ∈ rowsN (passN k n ws).1) ∧ ((passN k n ws).1.held = [] → rowsN (passN k n ws).1 = [])
  | 0, n, ws, h, hk, hl => ⟨h, hk, fun _ _ h => h, fun _ _ h _ => h, fun _ _ h _ => h, fun _ => by
      have : (rowsN n).length = 0 := by unfold rowsN; rw [List.length_append]; omega
      exact List.eq_nil_of_length_eq_zero this⟩
  | k + 1, n, ws, h, hk, hl => by
    by_cases hx : firstN n = 0
    · have e : passN (k + 1) n ws = (n, ws, []) := by unfold passN; rw [if_pos hx]
      rw [e]
      refine ⟨h, hk, fun _ _ h => h, fun _ _ h _ => h, fun _ _ h _ => h, fun _ => ?_⟩
      cases hr : rowsN n with
      | nil => rfl
      | cons y l =>
        exfalso
        have h1 : ∀ y ∈ rowsN n, y ≠ 0 := fun y hy => by obtain ⟨w, -, -, e3, -⟩ := h.rows y hy; omega
        unfold firstN at hx
        cases ht : n.turns with
        | cons z l => rw [ht] at hx; exact h1 z (by unfold rowsN; rw [ht]; simp) hx
        | nil =>
          cases hrr : n.row with
          | cons z l => rw [ht, hrr] at hx; exact h1 z (by unfold rowsN; rw [hrr]; simp) hx
          | nil => unfold rowsN at hr; rw [ht, hrr] at hr; cases hr
    · have hmem : firstN n ∈ rowsN n := List.mem_append.2 (firstN_mem hx)
      obtain ⟨w, e1, e2, e3, e4, e5, e6, e7⟩ := h.rows _ hmem
      by_cases hgo : goesB n (firstN n) (wouldN n (firstN n) ((aGet ws (firstN n)).getD ⟨[], 0⟩).mode) = true
      · rw [passN_go hx hgo]
        have hw : (aGet ws (firstN n)).getD ⟨[], 0⟩ = w := by rw [e1]; rfl
        rw [hw] at hgo ⊢
        have hlt := leaveN_lt hx
        have hg : GoodN (aDel ws (firstN n)) s { leaveN n (firstN n) with held := aSet n.held (firstN n) (wouldN n (firstN n) w.mode) } := by
          refine h.give e3 e4 e5 e6 hgo rfl (fun y hy => mem_outN.1 hy) (fun y hy => mem_outN.1 hy) ?_ fun y w' hy hw' => ?_
          · show (rowsN (leaveN n (firstN n))).Nodup
            rw [rowsN_leave]; exact outN_nodup h.nodup _
          · rw [aGet_aDel hk, if_neg hy]; exact hw'
        obtain ⟨g1, g2, g3, g4, g5, g6⟩ := passN_good k _ _ hg hk.del (by show (outN n.turns (firstN n)).length + (outN n.row (firstN n)).length ≤ k; omega)
        refine ⟨g1, g2, fun y w' hy => ?_, fun y w' hy hs => ?_, fun y w' hy hw' => ?_, g6⟩
        · have := g3 y w' hy
          rw [aGet_aDel hk] at this
          split at this
          · cases this
          · exact this
        · refine g4 y w' ?_ hs
          rw [aGet_aDel hk, if_neg]
          · exact hy
          · intro he
            subst he
            rw [e1] at hy; injection hy with hy; subst hy; exact hs e2
        · refine g5 y w' ?_ hw'
          show y ∈ rowsN (leaveN n (firstN n))
          rw [rowsN_leave, mem_outN]
          refine ⟨hy, fun he => ?_⟩
          have := g3 y w' hw'
          rw [aGet_aDel hk, if_pos he] at this
          cases this
      · have e : passN (k + 1) n ws = (n, ws, []) := by unfold passN; rw [if_neg hx, if_neg hgo]
        rw [e]
        refine ⟨h, hk, fun _ _ h => h, fun _ _ h _ => h, fun _ _ h _ => h, fun hh => ?_⟩
        exfalso
        refine hgo ?_
        have hh : n.held = [] := hh
        unfold goesB; rw [hh]; rfl
end Go.Proofs.YtakifgecgmdjcaaGreat

/- Locks: what holds of every table, whole. -/
namespace Go.Proofs.YtakifgecgmdjcaaGreat
open Go Xf Go.RowKit
set_option linter.unusedVariables false
set_option linter.unusedSimpArgs false
set_option maxRecDepth 100000

/-- a name, when the one who goes has left it, if that is still to be done -/
def virt (l : List (List UInt8)) (txn : Int) (s : List UInt8) (n : Nm) : Nm := if s ∈ l then leaveN n txn else n
structure GoodX (l : List (List UInt8)) (txn : Int) (T : Tb) : Prop where
  nm : ∀ s q, aGet T.names s = some q → GoodN T.waits s (virt l txn s q.2)
  conv : ∀ x w, aGet T.waits x = some w → ∃ q, aGet T.names w.name = some q ∧ x ∈ rowsN (virt l txn w.name q.2)
  live : ∀ s q, aGet T.names s = some q → q.2.held ≠ []
def Good (T : Tb) : Prop := GoodX [] 0 T
theorem virt_nil (txn : Int) (s : List UInt8) (n : Nm) : virt [] txn s n = n := by unfold virt; rw [if_neg (by simp)]
theorem Good.of {txn : Int} {T : Tb} (h : GoodX [] txn T) : Good T :=
  ⟨fun s q hq => by have := h.nm s q hq; rw [virt_nil] at this ⊢; exact this, fun x w hx => by have := h.conv x w hx; simp only [virt_nil] at this ⊢; exact this, h.live⟩
/-- the state ahead of pass at s: the name as it is laid may have nobody -/
structure PreX (l : List (List UInt8)) (txn : Int) (T : Tb) (s : List UInt8) : Prop where
  nm : ∀ s' q, aGet T.names s' = some q → GoodN T.waits s' (virt l txn s' q.2)
  conv : ∀ x w, aGet T.waits x = some w → ∃ q, aGet T.names w.name = some q ∧ x ∈ rowsN (virt l txn w.name q.2)
  live : ∀ s' q, s' ≠ s → aGet T.names s' = some q → q.2.held ≠ []
theorem passT_good {l : List (List UInt8)} {txn : Int} {T : Tb} {s : List UInt8} {q : Nat × Nm} {B : Nat} (h : PreX l txn T s) (hok : okT T B) (hs : s ∉ l) (hq : aGet T.names s = some q) : GoodX l txn (passT T s q).1 := by
  have hN := h.nm s q hq
  unfold virt at hN
  rw [if_neg hs] at hN
  obtain ⟨g1, g2, g3, g4, g5, g6⟩ := passN_good (q.2.turns.length + q.2.row.length) q.2 T.waits hN hok.wkeys (Nat.le_refl _)
  have other : ∀ s' n, s' ≠ s → GoodN T.waits s' n → GoodN (passN (q.2.turns.length + q.2.row.length) q.2 T.waits).2.1 s' n := fun s' n hne hn =>
    ⟨hn.held1, hn.bes, fun x hx => by obtain ⟨w, e1, e2, e3⟩ := hn.rows x hx; exact ⟨w, g4 x w e1 (by rw [e2]; exact hne), e2, e3⟩, hn.nodup, hn.turns, hn.row⟩
  unfold passT
  generalize passN (q.2.turns.length + q.2.row.length) q.2 T.waits = r at g1 g2 g3 g4 g5 g6 other
  by_cases hz : r.1.held.length = 0
  · simp only [hz, if_true]
    have hrn := g6 (List.eq_nil_of_length_eq_zero hz)
    refine ⟨fun s' q' h' => ?_, fun x w hx => ?_, fun s' q' h' => ?_⟩
    · rw [aGet_aDel hok.keys] at h'
      split at h'
      · cases h'
      · rename_i hne
        exact other s' _ hne (h.nm s' q' h')
    · obtain ⟨q', h1, h2⟩ := h.conv x w (g3 x w hx)
      have hne : w.name ≠ s := fun he => by
        rw [he] at h1 h2
        rw [hq] at h1; injection h1 with h1; subst h1
        unfold virt at h2; rw [if_neg hs] at h2
        have := g5 x w h2 hx
        rw [hrn] at this; cases this
      exact ⟨q', by rw [aGet_aDel hok.keys, if_neg hne]; exact h1, h2⟩
    · rw [aGet_aDel hok.keys] at h'
      split at h'
      · cases h'
      · rename_i hne
        exact h.live s' q' hne h'
  · simp only [hz, if_false]
    refine ⟨fun s' q' h' => ?_, fun x w hx => ?_, fun s' q' h' => ?_⟩
    · rw [aGet_aSet] at h'
      split at h'
      · rename_i he
        injection h' with h'; subst h' he
        show GoodN r.2.1 s' (virt l txn s' r.1)
        unfold virt; rw [if_neg hs]; exact g1
      · rename_i hne
        exact other s' _ hne (h.nm s' q' h')
    · obtain ⟨q', h1, h2⟩ := h.conv x w (g3 x w hx)
      by_cases he : w.name = s
      · rw [he] at h1 h2
        rw [hq] at h1; injection h1 with h1; subst h1
        unfold virt at h2; rw [if_neg hs] at h2
        refine ⟨(q.1, r.1), by rw [aGet_aSet, if_pos he], ?_⟩
        unfold virt; rw [he, if_neg hs]; exact g5 x w h2 hx
      · exact ⟨q', by rw [aGet_aSet, if_neg he]; exact h1, h2⟩
    · rw [aGet_aSet] at h'
      split at h'
      · injection h' with h'; subst h'
        intro hn; apply hz; show r.1.held.length = 0; rw [show r.1.held = [] from hn]; rfl
      · rename_i hne
        exact h.live s' q' hne h'
theorem GoodN.held_eq {ws : List (Int × Wt)} {s : List UInt8} {n : Nm} {txn : Int} (h : GoodN ws s n) (hk : Keys1 n.held) (ht : txn ∉ rowsN n) : GoodN ws s { n with held := aDel n.held txn } := by
  have ne : ∀ y, y ≠ txn → aGet (aDel n.held txn) y = aGet n.held y := fun y hy => by rw [aGet_aDel hk, if_neg hy]
  have sm : ∀ y m, aGet (aDel n.held txn) y = some m → aGet n.held y = some m := fun y m hy => by
    rw [aGet_aDel hk] at hy
    split at hy
    · cases hy
    · exact hy
  refine ⟨fun y my hy => h.held1 y my (sm y my hy), fun y z my mz hy hz hne => h.bes y z my mz (sm _ _ hy) (sm _ _ hz) hne, fun y hy => ?_, h.nodup, fun y hy => ?_, fun y hy => ?_⟩
  · obtain ⟨w, e1, e2, e3, e4, e5, e6, e7⟩ := h.rows y hy
    exact ⟨w, e1, e2, e3, e4, e5, e6, fun hm hhm => e7 hm (sm _ _ hhm)⟩
  · show (aGet (aDel n.held txn) y).isSome = true
    rw [ne y (fun he => ht (he ▸ List.mem_append_left _ hy))]; exact h.turns y hy
  · show aGet (aDel n.held txn) y = none
    rw [ne y (fun he => ht (he ▸ List.mem_append_right _ hy))]; exact h.row y hy
theorem not_mem_leave (n : Nm) (txn : Int) : txn ∉ rowsN (leaveN n txn) := by rw [rowsN_leave, mem_outN]; exact fun h => h.2 rfl
theorem goneS_good {l : List (List UInt8)} {txn : Int} {T : Tb} {s : List UInt8} {q : Nat × Nm} {B : Nat} (all : Bool) (h : GoodX (s :: l) txn T) (hok : okT T B) (hs : s ∉ l) (hq : aGet T.names s = some q) : GoodX l txn (goneS T s q txn all).1 := by
  have hN := h.nm s q hq
  unfold virt at hN
  rw [if_pos (List.mem_cons_self ..)] at hN
  have vne : ∀ s' n, s' ≠ s → virt (s :: l) txn s' n = virt l txn s' n := fun s' n hne => by
    unfold virt
    by_cases hm : s' ∈ l
    · rw [if_pos hm, if_pos (List.mem_cons_of_mem _ hm)]
    · rw [if_neg hm, if_neg (by simp [hne, hm])]
  have veq : ∀ n, virt l txn s n = n := fun n => by unfold virt; rw [if_neg hs]
  have pre : ∀ n : Nm, GoodN T.waits s n → rowsN n = rowsN (leaveN q.2 txn) → PreX l txn (putN T s (q.1, n)) s := fun n hn hr => by
    refine ⟨fun s' q' h' => ?_, fun x w hx => ?_, fun s' q' hne h' => ?_⟩
    · rw [putN, aGet_aSet] at h'
      split at h'
      · rename_i he; injection h' with h'; subst h' he
        rw [veq]; exact hn
      · rename_i hne
        rw [← vne s' _ hne]; exact h.nm s' q' h'
    · obtain ⟨q', h1, h2⟩ := h.conv x w hx
      by_cases he : w.name = s
      · rw [he] at h1 h2
        rw [hq] at h1; injection h1 with h1; subst h1
        unfold virt at h2; rw [if_pos (List.mem_cons_self ..)] at h2
        refine ⟨(q.1, n), by rw [putN, aGet_aSet, if_pos he], ?_⟩
        rw [he, veq, hr]; exact h2
      · exact ⟨q', by rw [putN, aGet_aSet, if_neg he]; exact h1, by rw [← vne _ _ he]; exact h2⟩
    · rw [putN, aGet_aSet, if_neg hne] at h'
      exact h.live s' q' h'
  have hokn := hok.nm s q hq
  unfold goneS
  split
  · exact passT_good (pre { leaveN q.2 txn with held := aDel q.2.held txn } (hN.held_eq hokn.2.2 (not_mem_leave _ _)) rfl) (hok.put hq (q := (q.1, { leaveN q.2 txn with held := aDel q.2.held txn })) (okN.del (n := leaveN q.2 txn) (hokn.leave txn) txn)) hs (get_putN _ _ _)
  · split
    · exact passT_good (pre _ hN rfl) (hok.put hq (q := (q.1, leaveN q.2 txn)) (hokn.leave txn)) hs (get_putN _ _ _)
    · obtain ⟨p1, p2, p3⟩ := pre _ hN rfl
      refine ⟨p1, p2, fun s' q' h' => ?_⟩
      by_cases he : s' = s
      · subst he
        rw [putN, aGet_aSet, if_pos rfl] at h'
        injection h' with h'; subst h'
        exact h.live s' q hq
      · exact p3 s' q' he h'
theorem goneL_good {B : Nat} (txn : Int) (all : Bool) : ∀ (l : List (List UInt8)) (T : Tb), GoodX l txn T → okT T B → l.Nodup → GoodX [] txn (goneL txn all l T).1
  | [], T, h, _, _ => h
  | s :: l, T, h, hok, hn => by
    rw [List.nodup_cons] at hn
    cases hq : aGet T.names s with
    | none =>
      have e : goneL txn all (s :: l) T = goneL txn all l T := by conv => lhs; unfold goneL; rw [hq]
      rw [e]
      refine goneL_good txn all l T ⟨fun s' q' h' => ?_, fun x w hx => ?_, h.live⟩ hok hn.2
      · have hne : s' ≠ s := fun he => by rw [he, hq] at h'; cases h'
        have := h.nm s' q' h'
        unfold virt at this ⊢
        simpa [hne] using this
      · obtain ⟨q', h1, h2⟩ := h.conv x w hx
        have hne : w.name ≠ s := fun he => by rw [he, hq] at h1; cases h1
        refine ⟨q', h1, ?_⟩
        unfold virt at h2 ⊢
        simpa [hne] using h2
    | some q =>
      rw [goneL_cons hq]
      exact goneL_good txn all l _ (goneS_good all h hok hn.1 hq) (goneS_ok txn all hok hq).1 hn.2
theorem goneT_good {T : Tb} {B : Nat} (h : Good T) (hok : okT T B) (txn : Int) (all : Bool) : Good (goneT T txn all).1 := by
  refine Good.of (goneL_good (B := B) txn all _ ⟨T.names, aDel T.waits txn⟩ ⟨fun s q hq => ?_, fun x w hx => ?_, h.live⟩ ⟨hok.keys, hok.wkeys.del, hok.len, hok.short, hok.nm⟩ ((sortS_perm _).nodup_iff.2 hok.keys))
  · have hmem : s ∈ sortS (T.names.map (·.1)) := (sortS_perm _).mem_iff.2 (aGet_key hq)
    have hN := h.nm s q hq
    rw [virt_nil] at hN
    unfold virt
    rw [if_pos hmem]
    refine ⟨hN.held1, hN.bes, fun y hy => ?_, by rw [rowsN_leave]; exact outN_nodup hN.nodup _, fun y hy => hN.turns y (mem_outN.1 hy).1, fun y hy => hN.row y (mem_outN.1 hy).1⟩
    rw [rowsN_leave, mem_outN] at hy
    obtain ⟨w, e1, e2, e3⟩ := hN.rows y hy.1
    exact ⟨w, by show aGet (aDel T.waits txn) y = some w; rw [aGet_aDel hok.wkeys, if_neg hy.2]; exact e1, e2, e3⟩
  · have hx : aGet (aDel T.waits txn) x = some w := hx
    rw [aGet_aDel hok.wkeys] at hx
    split at hx
    · cases hx
    · rename_i hne
      obtain ⟨q, h1, h2⟩ := h.conv x w hx
      rw [virt_nil] at h2
      refine ⟨q, h1, ?_⟩
      unfold virt
      rw [if_pos ((sortS_perm _).mem_iff.2 (aGet_key h1)), rowsN_leave, mem_outN]
      exact ⟨h2, hne⟩
end Go.Proofs.YtakifgecgmdjcaaGreat

/- Locks: what holds of every table: Ask. -/
namespace Go.Proofs.YtakifgecgmdjcaaGreat
open Go Xf Go.RowKit
set_option linter.unusedVariables false
set_option linter.unusedSimpArgs false
set_option maxRecDepth 100000

theorem Good.empty : Good ⟨[], []⟩ := ⟨fun s q h => (by cases h), fun x w h => (by cases h), fun s q h => (by cases h)⟩
theorem Good.nm' {T : Tb} (h : Good T) {s : List UInt8} {q : Nat × Nm} (hq : aGet T.names s = some q) : GoodN T.waits s q.2 := by have := h.nm s q hq; rwa [virt_nil] at this
theorem Good.conv' {T : Tb} (h : Good T) {x : Int} {w : Wt} (hx : aGet T.waits x = some w) : ∃ q, aGet T.names w.name = some q ∧ x ∈ rowsN q.2 := by have := h.conv x w hx; simpa only [virt_nil] using this
theorem Good.mk' {T : Tb} (h1 : ∀ s q, aGet T.names s = some q → GoodN T.waits s q.2) (h2 : ∀ x w, aGet T.waits x = some w → ∃ q, aGet T.names w.name = some q ∧ x ∈ rowsN q.2) (h3 : ∀ s q, aGet T.names s = some q → q.2.held ≠ []) : Good T :=
  ⟨fun s q hq => by rw [virt_nil]; exact h1 s q hq, fun x w hx => by simp only [virt_nil]; exact h2 x w hx, h3⟩
theorem aSet_ne_nil {κ ν : Type} [DecidableEq κ] (l : List (κ × ν)) (k : κ) (v : ν) : aSet l k v ≠ [] := by
  cases l with
  | nil => rw [aSet_nil]; simp
  | cons p l => rw [aSet_cons]; split <;> simp
theorem noNm_good (ws : List (Int × Wt)) (s : List UInt8) : GoodN ws s noNm := ⟨fun x m h => (by cases h), fun x y mx my h => (by cases h), fun x h => (by cases h), List.nodup_nil, fun x h => (by cases h), fun x h => (by cases h)⟩
theorem askT_good {T : Tb} (h : Good T) (new : Nat) (txn : Int) (v : Wt) (h64 : in64 txn) : Good (askT T new txn v).1 := by
  unfold askT
  split
  rotate_left
  · exact h
  rename_i hok
  obtain ⟨a1, a2, a3, a4, a5⟩ := hok
  split
  · exact h
  rename_i hnw
  have hnw : aGet T.waits txn = none := by
    cases hh : aGet T.waits txn with
    | none => rfl
    | some x => rw [hh] at hnw; simp at hnw
  show Good (askAt T ((aGet T.names v.name).getD (new, noNm)) txn v).1
  have hq : GoodN T.waits v.name ((aGet T.names v.name).getD (new, noNm)).2 := by
    cases hg : aGet T.names v.name with
    | none => exact noNm_good _ _
    | some q => exact h.nm' hg
  have hex : ((aGet T.names v.name).getD (new, noNm)).2.held ≠ [] → aGet T.names v.name = some ((aGet T.names v.name).getD (new, noNm)) := fun hne => by
    cases hg : aGet T.names v.name with
    | none => rw [hg] at hne; exact absurd rfl hne
    | some q => rfl
  have hro : ∀ q', aGet T.names v.name = some q' → ((aGet T.names v.name).getD (new, noNm)) = q' := fun q' hg => by rw [hg]; rfl
  generalize (aGet T.names v.name).getD (new, noNm) = q at hq hex hro
  have htr : ∀ y ∈ rowsN q.2, y ≠ txn := fun y hy he => by
    obtain ⟨w, e1, -⟩ := hq.rows y hy
    rw [he, hnw] at e1; cases e1
  have put : ∀ n : Nm, GoodN T.waits v.name n → n.held ≠ [] → (∀ y ∈ rowsN q.2, y ∈ rowsN n) → Good (putN T v.name (q.1, n)) := fun n hn hl hr => by
    refine Good.mk' (fun s' q' h' => ?_) (fun x w hx => ?_) fun s' q' h' => ?_
    · rw [putN, aGet_aSet] at h'
      split at h'
      · rename_i he; injection h' with h'; subst h' he; exact hn
      · exact h.nm' h'
    · obtain ⟨q', h1, h2⟩ := h.conv' hx
      by_cases he : w.name = v.name
      · rw [he] at h1
        have := hro q' h1; subst this
        exact ⟨(q.1, n), by rw [putN, aGet_aSet, if_pos he], hr x h2⟩
      · exact ⟨q', by rw [putN, aGet_aSet, if_neg he]; exact h1, h2⟩
    · rw [putN, aGet_aSet] at h'
      split at h'
      · injection h' with h'; subst h'; exact hl
      · exact h.live s' q' h'
  unfold askAt
  split
  · rename_i hc
    have hne : q.2.held ≠ [] := fun hh => by unfold covB at hc; rw [hh, aGet_nil] at hc; cases hc
    have := put q.2 hq hne fun y hy => hy
    exact this
  · rename_i hc
    have hc : covB q.2 txn v.mode = false := by simpa using hc
    split
    · rename_i hg
      unfold getsB at hg
      rw [Bool.and_eq_true] at hg
      refine put (giveN q.2 txn v.mode) ?_ (aSet_ne_nil _ _ _) fun y hy => hy
      exact hq.give (n' := giveN q.2 txn v.mode) a1 h64 a4 a5 hg.1 rfl (fun y hy => ⟨hy, htr y (List.mem_append_left _ hy)⟩) (fun y hy => ⟨hy, htr y (List.mem_append_right _ hy)⟩) hq.nodup fun y w _ hw => hw
    · rename_i hg
      have hg : getsB q.2 txn v.mode = false := by simpa using hg
      have hne : q.2.held ≠ [] := fun hh => by
        have hgo : goesB q.2 txn (wouldN q.2 txn v.mode) = true := by unfold goesB; rw [hh]; rfl
        unfold getsB at hg
        rw [hgo, hh, aGet_nil, Bool.true_and] at hg
        have hrn : ¬ (q.2.turns.length + q.2.row.length = 0) := by simpa using hg
        have : rowsN q.2 ≠ [] := fun hr => hrn (by have := congrArg List.length hr; unfold rowsN at this; rw [List.length_append] at this; exact this)
        obtain ⟨y, l, hyl⟩ := List.exists_cons_of_ne_nil this
        have hy : y ∈ rowsN q.2 := by rw [hyl]; exact List.mem_cons_self ..
        obtain ⟨w, e1, e2, -⟩ := hq.rows y hy
        obtain ⟨q', h1, h2⟩ := h.conv' e1
        rw [e2] at h1
        have := hro q' h1; subst this
        exact h.live _ _ h1 hh
      have hgt := hex hne
      have hqh : (queueN q.2 txn).held = q.2.held := by unfold queueN; split <;> rfl
      have hqr : ∀ y, y ∈ rowsN (queueN q.2 txn) ↔ y ∈ rowsN q.2 ∨ y = txn := fun y => by
        unfold queueN rowsN
        split
        · simp only [List.mem_append, List.mem_singleton]
          constructor
          · rintro ((h | h) | h)
            · exact .inl (.inl h)
            · exact .inr h
            · exact .inl (.inr h)
          · rintro ((h | h) | h)
            · exact .inl (.inl h)
            · exact .inr h
            · exact .inl (.inr h)
        · simp only [List.mem_append, List.mem_singleton, or_assoc]
      have wne : ∀ y, y ≠ txn → aGet (aSet T.waits txn v) y = aGet T.waits y := fun y hy => by rw [aGet_aSet, if_neg hy]
      have weq : aGet (aSet T.waits txn v) txn = some v := by rw [aGet_aSet, if_pos rfl]
      have hN : GoodN (aSet T.waits txn v) v.name (queueN q.2 txn) := by
        refine ⟨fun x m hx => hq.held1 x m (by rw [← hqh]; exact hx), fun x y mx my hx hy hne => hq.bes x y mx my (by rw [← hqh]; exact hx) (by rw [← hqh]; exact hy) hne, fun y hy => ?_, ?_, fun y hy => ?_, fun y hy => ?_⟩
        · rcases (hqr y).1 hy with hy | rfl
          · obtain ⟨w, e1, e2, e3, e4, e5, e6, e7⟩ := hq.rows y hy
            exact ⟨w, by rw [wne y (htr y hy)]; exact e1, e2, e3, e4, e5, e6, fun hm hhm => e7 hm (by rw [← hqh]; exact hhm)⟩
          · refine ⟨v, weq, rfl, a1, h64, a4, a5, fun hm hhm => ?_⟩
            rw [hqh] at hhm
            unfold covB at hc
            rw [hhm] at hc; exact hc
        · have hnt : txn ∉ rowsN q.2 := fun hh => htr _ hh rfl
          have hnd := hq.nodup
          unfold queueN rowsN at *
          split
          · simp only
            rw [List.nodup_append] at hnd ⊢
            simp only [List.mem_append, not_or] at hnt
            refine ⟨?_, hnd.2.1, fun a ha b hb => ?_⟩
            · rw [List.nodup_append]
              exact ⟨hnd.1, by simp, fun a ha b hb => by rw [List.mem_singleton] at hb; subst hb; exact fun he => hnt.1 (he ▸ ha)⟩
            · rcases List.mem_append.1 ha with ha | ha
              · exact hnd.2.2 a ha b hb
              · rw [List.mem_singleton] at ha; subst ha; exact fun he => hnt.2 (he ▸ hb)
          · simp only
            rw [← List.append_assoc, List.nodup_append]
            exact ⟨hnd, by simp, fun a ha b hb => by rw [List.mem_singleton] at hb; subst hb; exact fun he => hnt (he ▸ ha)⟩
        · rw [hqh]
          unfold queueN at hy
          split at hy
          · rename_i his
            rcases List.mem_append.1 hy with hy | hy
            · exact hq.turns y hy
            · rw [List.mem_singleton] at hy; subst hy; exact his
          · exact hq.turns y hy
        · rw [hqh]
          unfold queueN at hy
          split at hy
          · exact hq.row y hy
          · rename_i his
            rcases List.mem_append.1 hy with hy | hy
            · exact hq.row y hy
            · rw [List.mem_singleton] at hy; subst hy
              cases hh : aGet q.2.held y with
              | none => rfl
              | some z => rw [hh] at his; exact absurd rfl his
      refine Good.mk' (fun s' q' h' => ?_) (fun x w hx => ?_) fun s' q' h' => ?_
      · have h' : aGet (aSet T.names v.name (q.1, queueN q.2 txn)) s' = some q' := h'
        rw [aGet_aSet] at h'
        split at h'
        · rename_i he; injection h' with h'; subst h' he; exact hN
        · rename_i hne'
          have hn := h.nm' h'
          refine ⟨hn.held1, hn.bes, fun y hy => ?_, hn.nodup, hn.turns, hn.row⟩
          obtain ⟨w, e1, e2, e3⟩ := hn.rows y hy
          refine ⟨w, ?_, e2, e3⟩
          show aGet (aSet T.waits txn v) y = some w
          rw [wne y (fun he => by rw [he, hnw] at e1; cases e1)]; exact e1
      · have hx : aGet (aSet T.waits txn v) x = some w := hx
        by_cases he : x = txn
        · subst he
          rw [weq] at hx; injection hx with hx; subst hx
          exact ⟨(q.1, queueN q.2 x), by show aGet (aSet T.names _ _) _ = _; rw [aGet_aSet, if_pos rfl], (hqr x).2 (.inr rfl)⟩
        · rw [wne x he] at hx
          obtain ⟨q', h1, h2⟩ := h.conv' hx
          by_cases hs : w.name = v.name
          · rw [hs] at h1
            have := hro q' h1; subst this
            exact ⟨(q.1, queueN q.2 txn), by show aGet (aSet T.names _ _) _ = _; rw [aGet_aSet, if_pos hs], (hqr x).2 (.inl h2)⟩
          · exact ⟨q', by show aGet (aSet T.names _ _) _ = _; rw [aGet_aSet, if_neg hs]; exact h1, h2⟩
      · have h' : aGet (aSet T.names v.name (q.1, queueN q.2 txn)) s' = some q' := h'
        rw [aGet_aSet] at h'
        split at h'
        · injection h' with h'; subst h'; rw [hqh]; exact hne
        · exact h.live s' q' h'
theorem stepT_good {T : Tb} {B : Nat} (h : Good T) (hok : okT T B) (new : Nat) (o : LOp) (ho : in64 o.txn) : Good (stepT T new o) := by
  unfold stepT
  split
  · exact askT_good h new _ _ ho
  · split
    · exact goneT_good h hok _ _
    · split
      · exact goneT_good h hok _ _
      · exact h
theorem Reach.good {l : List LOp} {T : Tb} (h : Reach l T) (hl : ∀ o ∈ l, okO o) : Good T := by
  induction h with
  | nil => exact Good.empty
  | snoc new o hr ih =>
    have := ih fun o ho => hl o (List.mem_append_left _ ho)
    unfold stepS
    split
    · exact stepT_good this hr.ok new o (hl o (List.mem_append_right _ (List.mem_singleton.2 rfl))).2.1
    · exact this
end Go.Proofs.YtakifgecgmdjcaaGreat

/- Locks: the sorted numbers of a map. -/
namespace Go.Proofs.YtakifgecgmdjcaaGreat
open Go Xf Go.RowKit Go.Maps Go.Sort Go.Shelf
open Go.WideElems (Fit rd rg rg_of rd_mk)
set_option linter.unusedVariables false
set_option linter.unusedSimpArgs false
set_option maxRecDepth 100000

theorem wf_in64 {n : Int} (h : in64 n) : (Lit.int .i64 n).wf = true := by
  simp only [Lit.wf, Bool.and_eq_true, decide_eq_true_eq]
  have e1 : IntKind.min .i64 = -9223372036854775808 := by decide
  have e2 : IntKind.max .i64 = 9223372036854775807 := by decide
  rw [e1, e2]
  unfold in64 at h; omega
section
variable {w W : World} {ν : Type} {ve : ν → Value} {b : Nat} {o : Obj} {ks : List Nat} {F : List (Nat × Obj)}
theorem sortsB (m : Nat) : AnyZI.SortsIn Tryz.prog Tryz.sortedB_ren Fence.wide m :=
  ⟨fun blk off cap ss W hH hblk hsz => callsIn_wide.2 (AnyM.slices_Sort_int Tryz.sortB blk off cap ss W hH hblk hsz),
   fun p cap W => callsIn_wide.2 (AnyM.slices_Sort_int_none Tryz.sortB p cap W)⟩
def seqI (g : Nat) : Value := .func (.func 67) #[] #[.pointer (some ⟨g, 0, none⟩)]
def sortI (l : List Int) : List Int := l.mergeSort fun x y => decide (x ≤ y)
theorem KeysI_spec (w : World) (b : Nat) : CallsR Tryz.prog 44 #[.map (some b)] w fun u w' => u = seqI w.heap.size ∧ w' = w.alloc (.cells #[.map (some b)] 91) :=
  Calls.mono (callsIn_wide.1 (AnyZI.keys_in Tryz.keysB Fence.wide 5 trivial rfl (some b) w)) fun e w' h => ⟨_, h.1, rfl, h.2⟩
theorem SortedI_spec {l : List (Int × ν)} (hb : w.heap[b]? = some o) (hm : MapO keyI ve l o) (hn : (l.map (·.1)).Nodup) (hl : l.length ≤ 1000000) (hk : ∀ p ∈ l, in64 p.1) :
    CallsR Tryz.prog 43 #[seqI w.heap.size] (w.alloc (.cells #[.map (some b)] 91)) fun u w' => ∃ h, RowH 3 1 u (sortI (l.map (·.1))).length (intsV .i64 (sortI (l.map (·.1)))) h ∧ Owns w' h ∧ Upd w w' [] ∧ ∀ p ∈ h, w.heap.size ≤ p.1 := by
  have hmx : (1000000 : Nat) ≤ maxLen := by decide
  obtain ⟨E, hown, hperm, hlen⟩ := ownsMap_of (kt := 3) (lit := fun k => .int .i64 k) hb hm hn (by omega) (fun p hp => by
    unfold keyOf mapKey
    simp only [u3, wf_in64 (hk p hp), if_true, and_self]) fun a b h => by simpa using h
  have hbl := hown.lt
  have hsk : (intKeys (.map E)).Perm (l.map (·.1)) := by
    have h1 : intKeys (.map E) = (E.map (·.1)).map Go.intOf := by unfold intKeys; rw [List.map_map]; rfl
    rw [h1]
    refine (hperm.map Go.intOf).trans ?_
    rw [List.map_map]
    exact .of_eq (List.map_congr_left fun p hp => rfl)
  have hsz : Maps.size (.map E) = l.length := hlen
  have hseq : SeqGives Fence.wide 2 Tryz.prog 67 #[.pointer (some ⟨w.heap.size, 0, none⟩)] encZ (fun ss => ss.Perm (intKeys (.map E))) (Maps.size (.map E)) (w.alloc (.cells #[.map (some b)] 91)) :=
    AnyZI.keys_gives (ρ := Tryz.keysB_ren) { Tryz.keysB with } Fence.wide _ trivial rfl (by omega) w.heap.size b l.length (.map E) _ (by simp) (by simp) (by
      obtain ⟨es, clock, hb, Ft, hs, hD⟩ := hown
      exact ⟨es, clock, (Below.heap_alloc _ _ b hbl).trans hb, Ft, hs, hD⟩)
  have cS := AnyZI.sorted_in Tryz.sortedB Fence.wide 5 trivial trivial trivial trivial rfl (by omega) (sortsB _) (enters_of Tryz.func66 (by kernel_rfl) rfl) 67 #[.pointer (some ⟨w.heap.size, 0, none⟩)] trivial (enters_of Tryz.func67 (by kernel_rfl) rfl) _ _ (by rw [hsz]; omega) (by rw [hsz]; omega) _ hseq
  change CallsIn _ _ Tryz.prog 43 _ _ _ at cS
  refine Calls.mono (callsIn_wide.1 cS) ?_
  rintro e w' ⟨v, ss, rfl, hS, hrow, hnil, hB⟩
  obtain ⟨ht, hr, hO, hge⟩ := RowH.ofOwns hrow
  have hss : ss.Perm (l.map (·.1)) := hS.trans hsk
  have he : (ss.mergeSort fun x y => decide (x ≤ y)) = sortI (l.map (·.1)) := mergeSort_of_perm_i hss
  have hlen2 : (sortI (l.map (·.1))).length = ss.length := by rw [← he, List.length_mergeSort]
  refine ⟨v, rfl, ht, ?_, hO, ?_, fun p hp => ?_⟩
  · rw [hlen2, ← he]; exact hr
  · exact (Upd.alloc w _ []).trans (Upd.ofBelow hB)
  · have := hge p hp
    simp at this
    omega
theorem sortI_perm (l : List Int) : (sortI l).Perm l := List.mergeSort_perm l _
theorem sortI_lt {l : List Int} (h : l.Nodup) : (sortI l).Pairwise (· < ·) := by
  have h1 : (sortI l).Pairwise (fun a b => decide (a ≤ b) = true) := List.pairwise_mergeSort (fun a b c h1 h2 => by simp at *; omega) (fun a b => by simp; omega) l
  have h2 : (sortI l).Nodup := (sortI_perm l).nodup_iff.2 h
  exact (List.pairwise_and_iff.2 ⟨h1, h2⟩).imp fun ⟨h3, h4⟩ => by simp at h3; omega
end
end Go.Proofs.YtakifgecgmdjcaaGreat

/- Locks: how much a table holds. -/
namespace Go.Proofs.YtakifgecgmdjcaaGreat
open Go Xf Go.RowKit
set_option linter.unusedVariables false
set_option linter.unusedSimpArgs false
set_option maxRecDepth 100000

def szN (n : Nm) : Nat := n.held.length + n.turns.length + n.row.length
structure okS (T : Tb) (B : Nat) : Prop where
  waits : T.waits.length ≤ B
  nm : ∀ s q, aGet T.names s = some q → szN q.2 ≤ B
theorem aSet_le {κ ν : Type} [DecidableEq κ] (k : κ) (v : ν) (l : List (κ × ν)) : (aSet l k v).length ≤ l.length + 1 := by rw [aSet_length]; split <;> omega
theorem szN_leave (n : Nm) (x : Int) : szN (leaveN n x) ≤ szN n := by
  have := outN_le n.turns x
  have := outN_le n.row x
  unfold szN leaveN; simp only; omega
theorem passN_sz : ∀ (k : Nat) (n : Nm) (ws : List (Int × Wt)), szN (passN k n ws).1 ≤ szN n ∧ (passN k n ws).2.1.length ≤ ws.length
  | 0, n, ws => ⟨Nat.le_refl _, Nat.le_refl _⟩
  | k + 1, n, ws => by
    unfold passN
    split
    · exact ⟨Nat.le_refl _, Nat.le_refl _⟩
    · rename_i hx
      split
      · obtain ⟨h1, h2⟩ := passN_sz k { leaveN n (firstN n) with held := aSet n.held (firstN n) (wouldN n (firstN n) ((aGet ws (firstN n)).getD ⟨[], 0⟩).mode) } (aDel ws (firstN n))
        have h3 := leaveN_lt hx
        have h4 := aSet_le (firstN n) (wouldN n (firstN n) ((aGet ws (firstN n)).getD ⟨[], 0⟩).mode) n.held
        have h5 := aDel_length (firstN n) ws
        refine ⟨Nat.le_trans h1 ?_, Nat.le_trans h2 h5⟩
        unfold szN leaveN; simp only; omega
      · exact ⟨Nat.le_refl _, Nat.le_refl _⟩
theorem okS.put {T : Tb} {B : Nat} {s : List UInt8} {q : Nat × Nm} (h : okS T B) (hq : szN q.2 ≤ B) : okS (putN T s q) B := ⟨h.waits, fun s' q' h' => by
  rw [putN, aGet_aSet] at h'
  split at h'
  · injection h' with h'; subst h'; exact hq
  · exact h.nm s' q' h'⟩
theorem passT_sz {T : Tb} {B C : Nat} {s : List UInt8} {q : Nat × Nm} (h : okS T B) (hok : okT T C) (hq : aGet T.names s = some q) : okS (passT T s q).1 B := by
  obtain ⟨h1, h2⟩ := passN_sz (q.2.turns.length + q.2.row.length) q.2 T.waits
  have h0 := h.nm s q hq
  have hw := h.waits
  unfold passT
  refine ⟨by show (passN _ _ _).2.1.length ≤ B; omega, fun s' q' h' => ?_⟩
  by_cases hz : (passN (q.2.turns.length + q.2.row.length) q.2 T.waits).1.held.length = 0
  · simp only [hz, if_true] at h'
    rw [aGet_aDel hok.keys] at h'
    split at h'
    · cases h'
    · exact h.nm s' q' h'
  · simp only [hz, if_false] at h'
    rw [aGet_aSet] at h'
    split at h'
    · injection h' with h'; subst h'; exact Nat.le_trans h1 h0
    · exact h.nm s' q' h'
theorem goneS_sz {T : Tb} {B C : Nat} {s : List UInt8} {q : Nat × Nm} (txn : Int) (all : Bool) (h : okS T B) (hok : okT T C) (hq : aGet T.names s = some q) : okS (goneS T s q txn all).1 B := by
  have h0 := h.nm s q hq
  have h1 := szN_leave q.2 txn
  have hokn := hok.nm s q hq
  unfold goneS
  split
  · have h2 : szN { leaveN q.2 txn with held := aDel q.2.held txn } ≤ B := by
      have := aDel_length txn q.2.held
      unfold szN leaveN at *; simp only at *; omega
    exact passT_sz (h.put (q := (q.1, { leaveN q.2 txn with held := aDel q.2.held txn })) h2) (hok.put hq (q := (q.1, { leaveN q.2 txn with held := aDel q.2.held txn })) (okN.del (n := leaveN q.2 txn) (hokn.leave txn) txn)) (get_putN _ _ _)
  · split
    · exact passT_sz (h.put (q := (q.1, leaveN q.2 txn)) (Nat.le_trans h1 h0)) (hok.put hq (q := (q.1, leaveN q.2 txn)) (hokn.leave txn)) (get_putN _ _ _)
    · exact h.put (q := (q.1, leaveN q.2 txn)) (Nat.le_trans h1 h0)
theorem goneL_sz {B C : Nat} (txn : Int) (all : Bool) : ∀ (l : List (List UInt8)) (T : Tb), okS T B → okT T C → okS (goneL txn all l T).1 B
  | [], T, h, _ => h
  | s :: l, T, h, hok => by
    unfold goneL
    split
    · exact goneL_sz txn all l T h hok
    · rename_i q h0
      exact goneL_sz txn all l _ (goneS_sz txn all h hok h0) (goneS_ok txn all hok h0).1
theorem goneT_sz {T : Tb} {B C : Nat} (txn : Int) (all : Bool) (h : okS T B) (hok : okT T C) : okS (goneT T txn all).1 B :=
  goneL_sz (C := C) txn all _ ⟨T.names, aDel T.waits txn⟩ ⟨Nat.le_trans (aDel_length _ _) h.waits, h.nm⟩ ⟨hok.keys, hok.wkeys.del, hok.len, hok.short, hok.nm⟩
theorem okS.mono {T : Tb} {B C : Nat} (h : okS T B) (hc : B ≤ C) : okS T C := ⟨Nat.le_trans h.waits hc, fun s q hq => Nat.le_trans (h.nm s q hq) hc⟩
theorem askT_sz {T : Tb} {B : Nat} (new : Nat) (txn : Int) (v : Wt) (h : okS T B) : okS (askT T new txn v).1 (B + 1) := by
  unfold askT
  split
  · split
    · exact h.mono (Nat.le_succ B)
    · have hq : szN ((aGet T.names v.name).getD (new, noNm)).2 ≤ B := by
        cases hg : aGet T.names v.name with
        | none => exact Nat.zero_le _
        | some q => exact h.nm _ _ hg
      generalize (aGet T.names v.name).getD (new, noNm) = q at hq
      show okS (askAt T q txn v).1 (B + 1)
      have hm := h.mono (Nat.le_succ B)
      unfold askAt
      split
      · exact hm.put (Nat.le_succ_of_le hq)
      · split
        · refine hm.put (q := (q.1, giveN q.2 txn v.mode)) ?_
          have := aSet_le txn (wouldN q.2 txn v.mode) q.2.held
          unfold szN giveN at *; simp only; omega
        · have h2 : szN (queueN q.2 txn) ≤ B + 1 := by
            unfold queueN szN at *
            split <;> simp only [List.length_append, List.length_singleton] <;> omega
          have h3 := hm.put (s := v.name) (q := (q.1, queueN q.2 txn)) h2
          exact ⟨Nat.le_trans (aSet_le _ _ _) (Nat.succ_le_succ h.waits), h3.nm⟩
  · exact h.mono (Nat.le_succ B)
theorem stepT_sz {T : Tb} {B C : Nat} (new : Nat) (o : LOp) (h : okS T B) (hok : okT T C) : okS (stepT T new o) (B + 1) := by
  unfold stepT
  split
  · exact askT_sz new _ _ h
  · split
    · exact (goneT_sz _ _ h hok).mono (Nat.le_succ B)
    · split
      · exact (goneT_sz _ _ h hok).mono (Nat.le_succ B)
      · exact h.mono (Nat.le_succ B)
theorem Reach.sz {l : List LOp} {T : Tb} (h : Reach l T) : okS T l.length := by
  induction h with
  | nil => exact ⟨Nat.zero_le _, fun s q h => (by cases h)⟩
  | snoc new o hr ih =>
    rw [List.length_append, List.length_singleton]
    unfold stepS
    split
    · exact stepT_sz new o ih hr.ok
    · exact ih.mono (Nat.le_succ _)
def sumH (l : List (List UInt8 × (Nat × Nm))) : Nat := (l.map fun p => p.2.2.held.length).sum
theorem sumH_le {B : Nat} : ∀ l : List (List UInt8 × (Nat × Nm)), (∀ p ∈ l, p.2.2.held.length ≤ B) → sumH l ≤ l.length * B
  | [], _ => Nat.zero_le _
  | p :: l, h => by
    have h1 := sumH_le l fun p hp => h p (List.mem_cons_of_mem _ hp)
    have h2 := h p (List.mem_cons_self ..)
    unfold sumH at *
    rw [List.map_cons, List.sum_cons, List.length_cons, Nat.succ_mul]
    omega
theorem sumH_perm {l l' : List (List UInt8 × (Nat × Nm))} (h : l.Perm l') : sumH l = sumH l' := (h.map _).sum_nat
/-- everything that a law of a table leans on -/
structure Fine (T : Tb) (B : Nat) : Prop where
  ok : okT T B
  sz : okS T B
  good : Good T
theorem Reach.fine {l : List LOp} {T : Tb} (h : Reach l T) (hl : ∀ o ∈ l, okO o) : Fine T l.length := ⟨h.ok, h.sz, h.good hl⟩
theorem Fine.mono {T : Tb} {B C : Nat} (h : Fine T B) (hc : B ≤ C) : Fine T C := ⟨h.ok.mono hc, h.sz.mono hc, h.good⟩
theorem Fine.step {T : Tb} {B : Nat} (h : Fine T B) (new : Nat) (o : LOp) (ho : in64 o.txn) : Fine (stepT T new o) (B + 1) := ⟨stepT_ok new o h.ok, stepT_sz new o h.sz h.ok, stepT_good h.good h.ok new o ho⟩
end Go.Proofs.YtakifgecgmdjcaaGreat

/- Locks: Txns. -/
namespace Go.Proofs.YtakifgecgmdjcaaGreat
open Go Xf Go.RowKit
set_option linter.unusedVariables false
set_option linter.unusedSimpArgs false
set_option maxRecDepth 100000

theorem uAll : Tryz.prog.underlying 91 = some (.map 3 4) := by kernel_rfl
abbrev keysOf {ν : Type} (l : List (Int × ν)) : List Int := l.map (·.1)
def uV : Unit → Value := fun _ => .bool true
def TxK (T : Tb) (x : Int) : Prop := x ∈ keysOf T.waits ∨ ∃ p ∈ T.names, x ∈ keysOf p.2.2.held
theorem TbB.mem {T : Tb} {on ow : Obj} {hs : List (Nat × Obj)} (hB : TbB T on ow hs) {p : List UInt8 × (Nat × Nm)} (hp : p ∈ T.names) : ∃ bh oh vt vr, (p.2.1, nmO bh vt vr) ∈ hs ∧ (bh, oh) ∈ hs ∧ MapO keyI keyI p.2.2.held oh := by
  obtain ⟨A, B, e⟩ := List.append_of_mem hp
  have h3 := hB.2.2
  rw [e] at h3
  obtain ⟨hn, hF, ⟨bh, oh, vt, vr, ht, hr, rfl, hmap, -, -⟩, -, hperm⟩ := NmsH.mid.1 h3
  exact ⟨bh, oh, vt, vr, hperm.mem_iff.1 (by simp), hperm.mem_iff.1 (by simp), hmap⟩
def TxnsPost (W : World) (ks : List Nat) (F : List (Nat × Obj)) (L : List Int) (T : Tb) (g : Nat) (u : Value) (w' : World) : Prop :=
  (∃ hl, RowH 3 1 u L.length (intsV .i64 L) hl ∧ TbAt W ks (hl ++ F) T g w' ∧ ∀ p ∈ hl, p.1 ∈ ks ∨ W.heap.size ≤ p.1) ∧ L.Pairwise (· < ·) ∧ (∀ x, x ∈ L ↔ TxK T x) ∧ L.length ≤ 300000
section
variable {W w w' : World} {ks : List Nat} {F G : List (Nat × Obj)} {T : Tb} {g : Nat} {K : Value → World → Prop}
theorem Txns_k2 {B ba bn bw : Nat} {oa on ow : Obj} {hs : List (Nat × Obj)} {la : List (Int × Unit)} (hB : TbB T on ow hs) (hmine : ∀ p ∈ tbL g bn bw on ow hs, p.1 ∈ ks ∨ W.heap.size ≤ p.1) (hU : Upd W w ks) (hO : Owns w ((ba, oa) :: (tbL g bn bw on ow hs ++ F))) (hm : MapO keyI uV la oa) (hk1 : Keys1 la) (hlen : la.length ≤ 300000) (hkey : ∀ x, x ∈ keysOf la ↔ TxK T x) (h64 : ∀ x, TxK T x → in64 x) :
    lock_Table_Txns_k2 (std Tryz.prog) (.map (some ba)) w fun u w' => ∃ L, TxnsPost W ks F L T g u w' := by
  unfold lock_Table_Txns_k2
  refine st_call (KeysI_spec w ba) ?_
  rintro _ w1 ⟨rfl, rfl⟩
  refine st_call (SortedI_spec (w := w) (hO.at_ 0 rfl) hm hk1 (by omega) (fun p hp => h64 _ ((hkey _).1 (List.mem_map_of_mem hp)))) ?_
  rintro v w2 ⟨hl, hr, hOl, hU2, hn⟩
  have hT : TbAt W ks F T g w := ⟨hU, _, ⟨bn, bw, on, ow, hs, rfl, hB⟩, hO.sub (List.sublist_cons_self ..), hmine⟩
  refine ⟨_, ⟨hl, hr, hT.addH hU2 hOl hn, fun p hp => .inr (Nat.le_trans hU.size (hn p hp))⟩, sortI_lt hk1, fun x => ?_, ?_⟩
  · rw [(sortI_perm _).mem_iff]; exact hkey x
  · rw [(sortI_perm _).length_eq, List.length_map]; exact hlen
theorem Txns_k1 {B ba bn bw : Nat} {oa on ow : Obj} {hs : List (Nat × Obj)} {la : List (Int × Unit)} (hB : TbB T on ow hs) (hfine : Fine T B) (hB5 : B ≤ 500) (hmine : ∀ p ∈ tbL g bn bw on ow hs, p.1 ∈ ks ∨ W.heap.size ≤ p.1) (hU : Upd W w ks) (hO : Owns w ((ba, oa) :: (tbL g bn bw on ow hs ++ F))) (hba : W.heap.size ≤ ba) (hm : MapO keyI uV la oa) (hk1 : Keys1 la) (hlen : la.length ≤ T.waits.length) (hkey : ∀ x, x ∈ keysOf la ↔ x ∈ keysOf T.waits) (h64 : ∀ x, TxK T x → in64 x) :
    lock_Table_Txns_k1 (std Tryz.prog) (.pointer (some ⟨g, 0, none⟩)) (.map (some ba)) w fun u w' => ∃ L, TxnsPost W ks F L T g u w' := by
  unfold lock_Table_Txns_k1
  generalize hH : tbL g bn bw on ow hs ++ F = H at hO
  have hmemH : ∀ p ∈ tbL g bn bw on ow hs, p ∈ H := fun p hp => by rw [← hH]; exact List.mem_append_left _ hp
  have c0 : w.cell? ⟨g, 0, none⟩ = some (.map (some bn)) := (cell_at (hO.2 (g, tbO bn bw) (List.mem_cons_of_mem _ (hmemH _ (by simp [tbL]))))).trans rfl
  simp (disch := first | assumption | omega) only [PX, LX, add_mk, Nat.reduceAdd]
  obtain ⟨jn, hjn⟩ := List.getElem?_of_mem (hmemH (bn, on) (by simp [tbL]))
  refine st_range uNames hU hO (jn + 1) (by rw [List.getElem?_cons_succ]; exact hjn) hB.1 ?_
  intro r w1 ob hI hU1 hO1 hr
  have hfin : sumH T.names ≤ B * B := Nat.le_trans (sumH_le (B := B) T.names fun p hp => by
    have := hfine.sz.nm p.1 p.2 (mem_names hfine.ok.keys hp)
    unfold szN at this; omega) (Nat.mul_le_mul hfine.ok.len (Nat.le_refl B))
  have hBB : B * B ≤ 250000 := Nat.mul_le_mul hB5 hB5
  have hwl := hfine.sz.waits
  let I : Nat → List Value → World → Prop := fun k vs w' => ∃ left ob la oa, k = left.length ∧ IterH strV ptV bn on left ob ∧ MapO keyI uV la oa ∧ Owns w' ((r, ob) :: (ba, oa) :: H) ∧ Upd W w' ks ∧ Keys1 la ∧ la.length + sumH left ≤ B + B * B ∧ (∀ p ∈ left, p ∈ T.names) ∧ (∀ x, (x ∈ keysOf la ∨ ∃ p ∈ left, x ∈ keysOf p.2.2.held) ↔ TxK T x)
  refine st_loop (fun vs w' => ∃ k, I k vs w') (minK I) ⟨_, T.names, ob, la, oa, rfl, hI, hm, hO1, hU1, hk1, by omega, fun p hp => hp, fun x => by unfold TxK; rw [hkey]⟩ ?_
  rintro dv vs w2 - hex
  obtain ⟨⟨left, ob2, la2, oa2, hk, hI2, hm2, hO2, hU2, hk12, hl2, hsub2, hx2⟩, -⟩ := minK_spec hex
  generalize minK I vs w2 = k at hk
  refine st_next hU2 hO2 0 rfl (jn + 2) (by rw [List.getElem?_cons_succ, List.getElem?_cons_succ]; exact hjn) hI2 (.inr hr) ?_ ?_
  · rintro rfl
    rw [px_ext1]
    simp only [BX]
    rw [← hH] at hO2
    refine Txns_k2 (B := B) hB hmine hU2 (hO2.sub (List.sublist_cons_self ..)) hm2 hk12 (by omega) (fun x => ?_) h64
    have := hx2 x
    simpa using this
  · intro p left' w3 ob3 hperm hI3 hent hU3 hO3
    have hO3 : Owns w3 ((r, ob3) :: (ba, oa2) :: H) := hO3
    have hlen := hperm.length_eq
    simp only [List.length_cons] at hlen
    have hp : p ∈ T.names := hsub2 p (hperm.mem_iff.1 (List.mem_cons_self ..))
    have hsub3 : ∀ p' ∈ left', p' ∈ T.names := fun p' hp' => hsub2 p' (hperm.mem_iff.1 (List.mem_cons_of_mem _ hp'))
    have hsum : sumH left = p.2.2.held.length + sumH left' := by rw [← sumH_perm hperm]; unfold sumH; rw [List.map_cons, List.sum_cons]
    simp only [PX, BX]
    rw [step_run (hent w3 (hO3.at_ 0 rfl) (hO3.2 _ (List.mem_cons_of_mem _ (List.mem_cons_of_mem _ (hmemH (bn, on) (by simp [tbL]))))))]
    obtain ⟨bh, oh, vt, vr, hgm, hbm, hmap⟩ := hB.mem hp
    have hgm := hmemH (p.2.1, nmO bh vt vr) (by simp [tbL, hgm])
    have hbm := hmemH (bh, oh) (by simp [tbL, hbm])
    have c1 : w3.cell? ⟨p.2.1, 0, none⟩ = some (.map (some bh)) := (cell_at (hO3.2 _ (List.mem_cons_of_mem _ (List.mem_cons_of_mem _ hgm)))).trans rfl
    unfold ptV
    simp (disch := first | assumption | omega) only [PX, LX, add_mk, Nat.reduceAdd]
    obtain ⟨jh, hjh⟩ := List.getElem?_of_mem hbm
    refine st_range uHeld hU3 hO3 (jh + 2) (by rw [List.getElem?_cons_succ, List.getElem?_cons_succ]; exact hjh) hmap ?_
    intro r2 w4 ob4 hI4 hU4 hO4 hr2
    let J : Nat → List Value → World → Prop := fun k vs w' => ∃ lefti ob la oa, k = lefti.length ∧ IterH keyI keyI bh oh lefti ob ∧ MapO keyI uV la oa ∧ Owns w' ((r2, ob) :: (r, ob3) :: (ba, oa) :: H) ∧ Upd W w' ks ∧ Keys1 la ∧ la.length + lefti.length + sumH left' ≤ B + B * B ∧ (∀ x, (x ∈ keysOf la ∨ x ∈ keysOf lefti ∨ ∃ p ∈ left', x ∈ keysOf p.2.2.held) ↔ TxK T x)
    refine st_loop (fun vs w' => ∃ k, J k vs w') (minK J) ⟨_, p.2.2.held, ob4, la2, oa2, rfl, hI4, hm2, hO4, hU4, hk12, by omega, fun x => ?_⟩ ?_
    · rw [← hx2 x]
      constructor
      · rintro (h | h | ⟨p', hp', h⟩)
        · exact .inl h
        · exact .inr ⟨p, hperm.mem_iff.1 (List.mem_cons_self ..), h⟩
        · exact .inr ⟨p', hperm.mem_iff.1 (List.mem_cons_of_mem _ hp'), h⟩
      · rintro (h | ⟨p', hp', h⟩)
        · exact .inl h
        · rcases List.mem_cons.1 (hperm.mem_iff.2 hp') with rfl | hp'
          · exact .inr (.inl h)
          · exact .inr (.inr ⟨p', hp', h⟩)
    rintro dv2 vs2 w5 - hex2
    obtain ⟨⟨lefti, ob5, la5, oa5, hk5, hI5, hm5, hO5, hU5, hk15, hl5, hx5⟩, -⟩ := minK_spec hex2
    generalize minK J vs2 w5 = k2 at hk5
    refine st_next hU5 hO5 0 rfl (jh + 3) (by rw [List.getElem?_cons_succ, List.getElem?_cons_succ, List.getElem?_cons_succ]; exact hjh) hI5 (.inr hr2) ?_ ?_
    · rintro rfl
      rw [px_ext1]
      simp only [BX]
      refine minK_go (I := I) (k' := left'.length) ⟨left', ob3, la5, oa5, rfl, hI3, hm5, hO5.sub (List.sublist_cons_self ..), hU5, hk15, by simp at hl5; omega, hsub3, fun x => ?_⟩ (by omega)
      have := hx5 x
      simpa using this
    · intro e lefti' w6 ob6 hperm6 hI6 hent6 hU6 hO6
      have hO6 : Owns w6 ((r2, ob6) :: (r, ob3) :: (ba, oa5) :: H) := hO6
      have hlen6 := hperm6.length_eq
      simp only [List.length_cons] at hlen6
      simp only [PX, BX]
      rw [step_run (hent6 w6 (hO6.at_ 0 rfl) (hO6.2 _ (List.mem_cons_of_mem _ (List.mem_cons_of_mem _ (List.mem_cons_of_mem _ hbm)))))]
      simp only [PX, BX]
      refine st_mapUpdate (ve := uV) uAll keyI_ok hU6 hO6 2 rfl hm5 (.inr hba) e.1 () ?_
      intro w7 oa7 hm7 hU7 hO7
      have hO7 : Owns w7 ((r2, ob6) :: (r, ob3) :: (ba, oa7) :: H) := hO7
      refine minK_go (I := J) (k' := lefti'.length) ⟨lefti', ob6, aSet la5 e.1 (), oa7, rfl, hI6, hm7, hO7, hU7, hk15.set, ?_, fun x => ?_⟩ (by omega)
      · have := aSet_le e.1 () la5; omega
      · rw [← hx5 x]
        unfold keysOf
        rw [aSet_keys]
        constructor
        · rintro ((h | h) | h | h)
          · exact .inr (.inl (by rw [h]; exact List.mem_map_of_mem (f := (·.1)) (hperm6.mem_iff.1 (List.mem_cons_self ..))))
          · exact .inl h
          · obtain ⟨q, hq, hqe⟩ := List.mem_map.1 h
            exact .inr (.inl (by rw [← hqe]; exact List.mem_map_of_mem (f := (·.1)) (hperm6.mem_iff.1 (List.mem_cons_of_mem _ hq))))
          · exact .inr (.inr h)
        · rintro (h | h | h)
          · exact .inl (.inr h)
          · obtain ⟨q, hq, hqe⟩ := List.mem_map.1 h
            rcases List.mem_cons.1 (hperm6.mem_iff.2 hq) with hqq | hqq
            · exact .inl (.inl (by rw [← hqe, hqq]))
            · exact .inr (.inl (by rw [← hqe]; exact List.mem_map_of_mem (f := (·.1)) hqq))
          · exact .inr (.inr h)
end
end Go.Proofs.YtakifgecgmdjcaaGreat

/- Locks: Txns, whole; beside. -/
namespace Go.Proofs.YtakifgecgmdjcaaGreat
open Go Xf Go.RowKit
set_option linter.unusedVariables false
set_option linter.unusedSimpArgs false
set_option maxRecDepth 100000

theorem key_get {ν : Type} {l : List (Int × ν)} {x : Int} (h : x ∈ keysOf l) : ∃ v, aGet l x = some v := Option.isSome_iff_exists.1 (aGet_keys.2 h)
theorem Good.wait {T : Tb} (h : Good T) {x : Int} {w : Wt} (hx : aGet T.waits x = some w) : ∃ q, aGet T.names w.name = some q ∧ x ∈ rowsN q.2 ∧ GoodW q.2 x w := by
  obtain ⟨q, h1, h2⟩ := h.conv' hx
  obtain ⟨w', e1, e2, e3⟩ := (h.nm' h1).rows x h2
  rw [hx] at e1; injection e1 with e1; subst e1
  exact ⟨q, h1, h2, e3⟩
theorem Fine.txk {T : Tb} {B : Nat} (h : Fine T B) {x : Int} (hx : TxK T x) : 1 ≤ x ∧ in64 x := by
  rcases hx with hx | ⟨p, hp, hx⟩
  · obtain ⟨w, hw⟩ := key_get hx
    obtain ⟨q, -, -, h1, h2, -⟩ := h.good.wait hw
    exact ⟨h1, h2⟩
  · obtain ⟨m, hm⟩ := key_get hx
    obtain ⟨h1, h2, -⟩ := (h.good.nm' (mem_names h.ok.keys hp)).held1 x m hm
    exact ⟨h1, h2⟩
section
variable {W w w' : World} {ks : List Nat} {F G : List (Nat × Obj)} {T : Tb} {g : Nat} {K : Value → World → Prop}
theorem Txns_spec {B : Nat} (h : TbAt W ks F T g w) (hfine : Fine T B) (hB5 : B ≤ 500) :
    CallsR Tryz.prog 15 #[.pointer (some ⟨g, 0, none⟩)] w fun u w' => ∃ L, TxnsPost W ks F L T g u w' := by
  apply lock_Table_Txns_sound
  unfold lock_Table_Txns_x
  obtain ⟨hU, _, ⟨bn, bw, on, ow, hs, rfl, hB⟩, hO, hmine⟩ := h
  refine st_makeMap hU hO ?_
  intro ba w1 hU1 hO1 hba
  have c1 : w1.cell? ⟨g, 1, none⟩ = some (.map (some bw)) := (cell_at (hO1.at_ 1 rfl)).trans rfl
  simp (disch := first | assumption | omega) only [PX, BX, LX, add_mk, Nat.reduceAdd]
  refine st_range uWaits hU1 hO1 3 rfl hB.2.1 ?_
  intro r w2 ob hI hU2 hO2 hr
  have h64 : ∀ x, TxK T x → in64 x := fun x hx => (hfine.txk hx).2
  let I : Nat → List Value → World → Prop := fun k vs w' => ∃ left ob la oa, k = left.length ∧ IterH keyI wtV bw ow left ob ∧ MapO keyI uV la oa ∧ Owns w' ((r, ob) :: (ba, oa) :: (tbL g bn bw on ow hs ++ F)) ∧ Upd W w' ks ∧ Keys1 la ∧ la.length + left.length ≤ T.waits.length ∧ (∀ x, (x ∈ keysOf la ∨ x ∈ keysOf left) ↔ x ∈ keysOf T.waits)
  refine st_loop (fun vs w' => ∃ k, I k vs w') (minK I) ⟨_, T.waits, ob, [], _, rfl, hI, MapO.nil _ _, hO2, hU2, List.nodup_nil, by simp, fun x => by simp⟩ ?_
  rintro dv vs w3 - hex
  obtain ⟨⟨left, ob3, la3, oa3, hk, hI3, hm3, hO3, hU3, hk13, hl3, hx3⟩, -⟩ := minK_spec hex
  generalize minK I vs w3 = k at hk
  refine st_next hU3 hO3 0 rfl 4 rfl hI3 (.inr hr) ?_ ?_
  · rintro rfl
    rw [px_ext1]
    simp only [BX]
    refine Txns_k1 hB hfine hB5 hmine hU3 (hO3.sub (List.sublist_cons_self ..)) hba hm3 hk13 (by simpa using hl3) (fun x => ?_) h64
    have := hx3 x
    simpa using this
  · intro e left' w4 ob4 hperm hI4 hent hU4 hO4
    have hO4 : Owns w4 ((r, ob4) :: (ba, oa3) :: (tbL g bn bw on ow hs ++ F)) := hO4
    have hlen := hperm.length_eq
    simp only [List.length_cons] at hlen
    simp only [PX, BX]
    rw [step_run (hent w4 (hO4.at_ 0 rfl) (hO4.at_ 4 rfl))]
    simp only [PX, BX]
    refine st_mapUpdate (ve := uV) uAll keyI_ok hU4 hO4 1 rfl hm3 (.inr hba) e.1 () ?_
    intro w5 oa5 hm5 hU5 hO5
    have hO5 : Owns w5 ((r, ob4) :: (ba, oa5) :: (tbL g bn bw on ow hs ++ F)) := hO5
    refine minK_go (I := I) (k' := left'.length) ⟨left', ob4, aSet la3 e.1 (), oa5, rfl, hI4, hm5, hO5, hU5, hk13.set, ?_, fun x => ?_⟩ (by omega)
    · have := aSet_le e.1 () la3; omega
    · rw [← hx3 x]
      unfold keysOf
      rw [aSet_keys]
      constructor
      · rintro ((h | h) | h)
        · exact .inr (by rw [h]; exact List.mem_map_of_mem (f := (·.1)) (hperm.mem_iff.1 (List.mem_cons_self ..)))
        · exact .inl h
        · obtain ⟨q, hq, hqe⟩ := List.mem_map.1 h
          exact .inr (by rw [← hqe]; exact List.mem_map_of_mem (f := (·.1)) (hperm.mem_iff.1 (List.mem_cons_of_mem _ hq)))
      · rintro (h | h)
        · exact .inl (.inr h)
        · obtain ⟨q, hq, hqe⟩ := List.mem_map.1 h
          rcases List.mem_cons.1 (hperm.mem_iff.2 hq) with hqq | hqq
          · exact .inl (.inl (by rw [← hqe, hqq]))
          · exact .inr (by rw [← hqe]; exact List.mem_map_of_mem (f := (·.1)) hqq)
end
end Go.Proofs.YtakifgecgmdjcaaGreat

/- Locks: LockBeside. -/
namespace Go.Proofs.YtakifgecgmdjcaaGreat
open Go Xf Go.RowKit
set_option linter.unusedVariables false
set_option linter.unusedSimpArgs false
set_option maxRecDepth 100000

theorem toList_mk (l : List UInt8) : (⟨l.toArray⟩ : ByteArray).toList = l := by rw [Go.ByteArray.toList_eq]
section
variable {P : Program} {w : World} {t : TypeId} {x y : Operand} {a b : List UInt8}
theorem r_sgeq : (sBin .geq t x y (strV a) (strV b)).run P w = .ok (.value (.bool (!decide (a < b)))) w := by
  simp only [sBin, run_sV, eqGuard, binOp, Op.stringOp, toList_mk, bytesLess_eq]
  rfl
theorem r_slss : (sBin .lss t x y (strV a) (strV b)).run P w = .ok (.value (.bool (decide (a < b)))) w := by
  simp only [sBin, run_sV, eqGuard, binOp, Op.stringOp, toList_mk, bytesLess_eq]
  rfl
end
theorem both_of {p A B : Prop} (hB : B) (hA : B → p → A) : (p → A) ∧ (¬ p → B) := ⟨hA hB, fun _ => hB⟩
theorem sortS_lt {l : List (List UInt8)} (h : l.Nodup) : (sortS l).Pairwise (· < ·) := by
  have h1 : (sortS l).Pairwise (fun a b => decide (a ≤ b) = true) := List.pairwise_mergeSort (fun a b c h1 h2 => by simp only [decide_eq_true_eq] at *; exact List.le_trans h1 h2) (fun a b => by simp only [Bool.or_eq_true, decide_eq_true_eq]; exact List.le_total a b) l
  have h2 : (sortS l).Nodup := (sortS_perm l).nodup_iff.2 h
  refine (List.pairwise_and_iff.2 ⟨h1, h2⟩).imp fun {a b} ⟨h3, h4⟩ => ?_
  simp only [decide_eq_true_eq] at h3
  exact Classical.byContradiction fun hn => h4 (List.le_antisymm h3 hn)
theorem heldL_names (T : Tb) (x : Int) : ∀ l : List (List UInt8), (heldL T x l).map (·.1) = l.filter fun s => (hasT T x s).isSome
  | [] => rfl
  | s :: l => by
    have ih := heldL_names T x l
    unfold heldL at ih ⊢
    rw [List.filterMap_cons, List.filter_cons]
    cases h : hasT T x s with
    | none => simp [ih]
    | some m => simp [ih]
theorem heldT_lt {T : Tb} (hk : Keys1 T.names) (x : Int) : ((heldT T x).map (·.1)).Pairwise (· < ·) := by
  unfold heldT
  rw [heldL_names]
  exact (sortS_lt hk).sublist List.filter_sublist
theorem hasT_some {T : Tb} {x : Int} {s : List UInt8} {m : Int} (h : hasT T x s = some m) : ∃ q, aGet T.names s = some q ∧ aGet q.2.held x = some m := by
  unfold hasT at h
  cases hg : aGet T.names s with
  | none => rw [hg] at h; cases h
  | some q => rw [hg] at h; exact ⟨q, rfl, h⟩
theorem Good.beside {T : Tb} (h : Good T) {x y : Int} (hne : x ≠ y) : ∀ p ∈ heldT T x, ∀ q ∈ heldT T y, p.1 = q.1 → bes (sureN p.2) (sureN q.2) = true := fun p hp q hq he => by
  obtain ⟨q1, e1, e2⟩ := hasT_some (mem_heldT.1 hp)
  obtain ⟨q2, e3, e4⟩ := hasT_some (mem_heldT.1 hq)
  rw [he, e3] at e1; injection e1 with e1; subst e1
  exact (h.nm' e3).bes x y _ _ e2 e4 hne
section
variable {W w w' : World} {F G : List (Nat × Obj)} {T : Tb} {g : Nat} {K : Value → World → Prop}
end
end Go.Proofs.YtakifgecgmdjcaaGreat

/- Locks: LockBeside, put together. -/
namespace Go.Proofs.YtakifgecgmdjcaaGreat
open Go Xf Go.RowKit
set_option linter.unusedVariables false
set_option linter.unusedSimpArgs false
set_option maxRecDepth 100000

theorem int_at {w : World} {v : Value} {l : List Int} {i : Nat} (hr : Rd w 1 v l.length (intsV .i64 l)) (hi : i < l.length) : ∃ a c, v = .slice (some a) l.length c ∧ w.cell? (a.add i) = some (.int .i64 l[i]) := by
  obtain ⟨A, c, rfl, -, -, hx⟩ := hr
  obtain ⟨a, rfl, ha⟩ := hx i (.int .i64 l[i]) (by simp [intsV, hi])
  exact ⟨a, c, rfl, ha⟩
section
variable {W w w' : World} {F G : List (Nat × Obj)} {T : Tb} {g : Nat} {K : Value → World → Prop}
theorem TbAt.rdI {L : List Int} {v : Value} {hl : List (Nat × Obj)} {ks : List Nat} (hr : RowH 3 1 v L.length (intsV .i64 L) hl) (h : TbAt W ks F T g w) (hs : ∀ p ∈ hl, p ∈ F) : Rd w 1 v L.length (intsV .i64 L) :=
  hr.rd (F := []) ⟨by rw [List.append_nil]; rcases hr.2 with ⟨_, _, rfl⟩ | ⟨g', _, _, _, rfl, _⟩ <;> simp, fun p hp => h.owns.2 p (hs p (by simpa using hp))⟩
theorem TbAt.rdHe {l : List He} {v : Value} {hl : List (Nat × Obj)} {ks : List Nat} (hr : RowH 104 2 v l.length (hesV l) hl) (h : TbAt W ks F T g w) (hs : ∀ p ∈ hl, p ∈ F) (hlen : l.length ≤ 1000) : RdS w heV 2 v l :=
  hr.he (F := []) ⟨by rw [List.append_nil]; rcases hr.2 with ⟨_, _, rfl⟩ | ⟨g', _, _, _, rfl, _⟩ <;> simp, fun p hp => h.owns.2 p (hs p (by simpa using hp))⟩ hlen
end
end Go.Proofs.YtakifgecgmdjcaaGreat

/- Locks: edges that are told. -/
namespace Go.Proofs.YtakifgecgmdjcaaGreat
open Go Xf Go.RowKit
set_option linter.unusedVariables false
set_option linter.unusedSimpArgs false
set_option maxRecDepth 100000

abbrev Ed := Int × Int
def edV (e : Ed) : List Value := [.int .i64 e.1, .int .i64 e.2]
def edsV (l : List Ed) : List Value := l.flatMap edV
theorem edsV_len (l : List Ed) : (edsV l).length = l.length * 2 := flat_len edV 2 (fun _ => rfl) l
theorem edsV_one (l : List Ed) : ∀ y ∈ edsV l, y.oneCell' = true := by
  intro y hy
  obtain ⟨p, -, hy⟩ := List.mem_flatMap.1 hy
  simp only [edV, List.mem_cons, List.not_mem_nil, or_false] at hy
  rcases hy with rfl | rfl <;> rfl
theorem build_ed (x y : Int) (w : World) : (sBuild 78 [(0, .int .i64 x), (1, .int .i64 y)]).run Tryz.prog w = .ok (.value (.agg (edV (x, y)).toArray)) w := by kernel_rfl
theorem row_ed (p : Ed) (w : World) : (sBuildSlice 39 1 [(0, .agg (edV p).toArray)]).run Tryz.prog w = .ok (.value (.slice (some ⟨w.heap.size, 0, none⟩) 1 1)) (w.alloc (.cells (edV p).toArray 78)) := by kernel_rfl
theorem info_ed : ∃ i, Tryz.prog.info? 78 = some i ∧ i.zero = some (.agg #[.int .i64 0, .int .i64 0]) ∧ i.size = 2 ∧ i.bytes = 16 := inf78
def yieldV (b : Nat) : Value := .func (.func 34) #[] #[.pointer (some ⟨b, 0, none⟩)]
theorem mk_yield (b : Nat) (w : World) : (sMakeFunc (.func 34) [] [.pointer (some ⟨b, 0, none⟩)]).run Tryz.prog w = .ok (.value (yieldV b)) w := by kernel_rfl
theorem call_yield (b : Nat) (x : Value) (w : World) : (sCallV (yieldV b) [x]).run Tryz.prog w = .ok (.enter 34 #[x, .pointer (some ⟨b, 0, none⟩)]) w := by kernel_rfl
def edB (b : Nat) (v : Value) : Nat × Obj := (b, .cells #[v] 39 (0, 0))
/-- what has been told, beside the blocks of R -/
def EdO (W : World) (ks : List Nat) (R : List (Nat × Obj)) (es : List Ed) (b : Nat) (w : World) : Prop :=
  ∃ v hl, RowH 78 2 v es.length (edsV es) hl ∧ Owns w (edB b v :: (hl ++ R)) ∧ Upd W w ks ∧ (∀ p ∈ hl, p.1 ∈ ks ∨ W.heap.size ≤ p.1) ∧ W.heap.size ≤ b
section
variable {W w w' : World} {ks : List Nat} {R R' : List (Nat × Obj)} {es : List Ed} {b : Nat} {K : Value → World → Prop}
theorem EdO.upd (h : EdO W ks R es b w) (hU : Upd w w' []) : EdO W ks R es b w' := by
  obtain ⟨v, hl, h1, h2, h3, h4, h5⟩ := h
  exact ⟨v, hl, h1, h2.ext hU, h3.then_ hU (fun x hx => by cases hx), h4, h5⟩
theorem EdO.weak (h : EdO W ks R es b w) (hs : R'.Sublist R) : EdO W ks R' es b w := by
  obtain ⟨v, hl, h1, h2, h3, h4, h5⟩ := h
  exact ⟨v, hl, h1, h2.sub ((hs.append_left hl).cons_cons _), h3, h4, h5⟩
theorem EdO.permR (h : EdO W ks R es b w) (hs : R.Perm R') : EdO W ks R' es b w := by
  obtain ⟨v, hl, h1, h2, h3, h4, h5⟩ := h
  exact ⟨v, hl, h1, h2.perm ((hs.append_left hl).cons _), h3, h4, h5⟩
theorem EdO.at_ (h : EdO W ks R es b w) {p : Nat × Obj} (hp : p ∈ R) : w.heap[p.1]? = some p.2 := by
  obtain ⟨v, hl, h1, h2, h3, h4, h5⟩ := h
  exact h2.2 p (List.mem_cons_of_mem _ (List.mem_append_right _ hp))
theorem EdO.u (h : EdO W ks R es b w) : Upd W w ks := by obtain ⟨v, hl, h1, h2, h3, h4, h5⟩ := h; exact h3
theorem edPerm {x : Nat × Obj} {v : Value} {hl : List (Nat × Obj)} : (x :: edB b v :: (hl ++ R)).Perm (edB b v :: (hl ++ x :: R)) := by
  classical
  refine List.perm_iff_count.2 fun y => ?_
  simp only [List.count_cons, List.count_append]
  omega
theorem yield_spec (h : EdO W ks R es b w) (hn : es.length ≤ 1000000000) (p : Ed) : CallsR Tryz.prog 34 #[.agg (edV p).toArray, .pointer (some ⟨b, 0, none⟩)] w fun u w' => u = .tuple #[] ∧ EdO W ks R (es ++ [p]) b w' := by
  obtain ⟨v, hl, hr, hO, hU, hm, hb⟩ := h
  apply lock_Table_Edges_1_sound
  unfold lock_Table_Edges_1_x
  refine st_box hU hO ?_
  intro b2 w1 hU1 hO1 hb2
  have hO1 : Owns w1 ((b2, .cells (edV p).toArray 78 (0, 0)) :: edB b v :: (hl ++ R)) := hO1
  obtain ⟨A1, n1, rfl⟩ := RowH.sl' hr
  have hcell : w1.cell? ⟨b, 0, none⟩ = some (.slice A1 es.length n1) := (cell_at (hO1.at_ 1 rfl)).trans rfl
  refine st_load ag39 hcell ?_
  rw [step_run (run_sLoad (run_loadVarN ag78 (cs := edV p) (by rw [sz78]; rfl) (cells_read (cs := (edV p).toArray) (hO1.at_ 0 rfl))))]
  refine st_newRow (fun w => row_ed p w) hU1 hO1 ?_
  intro gr w2 hU2 hO2 hgr
  obtain ⟨inf, e1, e2, e3, e4⟩ := info_ed
  have hP : Owns w2 (hl ++ ((gr, .cells (edV p).toArray 78 (0, 0)) :: (b2, .cells (edV p).toArray 78 (0, 0)) :: edB b (.slice A1 es.length n1) :: R)) := hO2.perm (by
    classical
    refine List.perm_iff_count.2 fun y => ?_
    simp only [List.count_cons, List.count_append]
    omega)
  have hrd : Rd w2 2 (.slice (some ⟨gr, 0, none⟩) 1 1) 1 (edsV [p]) := ⟨_, 1, rfl, Nat.le_refl _, edsV_len _, fun j u hu => ⟨_, rfl, cells_read (cs := (edV p).toArray) (hO2.at_ 0 rfl) j u (by simpa [edsV] using hu)⟩⟩
  have hmx : (1000000001 : Nat) ≤ maxLen := by decide
  refine st_append u39 e1 e2 e3 e4 rfl (by omega) hr hP hU2 hm hrd (edsV_one _) (by omega) (by omega) ?_
  intro v3 w3 h3 hr3 hO3 hU3 hm3
  have hr3 : RowH 78 2 v3 (es ++ [p]).length (edsV (es ++ [p])) h3 := by
    rw [List.length_append, List.length_singleton]
    have : edsV (es ++ [p]) = edsV es ++ edsV [p] := by simp [edsV]
    rw [this]; exact hr3
  have hO3 : Owns w3 (edB b (.slice A1 es.length n1) :: (gr, .cells (edV p).toArray 78 (0, 0)) :: (b2, .cells (edV p).toArray 78 (0, 0)) :: (h3 ++ R)) := hO3.perm (by
    classical
    refine List.perm_iff_count.2 fun y => ?_
    simp only [List.count_cons, List.count_append]
    omega)
  obtain ⟨A3, n3, rfl⟩ := RowH.sl' hr3
  refine st_storeB sz39 rfl hU3 hO3 0 rfl (by simp) (.inr (Nat.zero_le _)) (.inr hb) ?_
  intro w4 hU4 hO4
  have hO4 : Owns w4 (edB b (.slice A3 (es ++ [p]).length n3) :: (gr, .cells (edV p).toArray 78 (0, 0)) :: (b2, .cells (edV p).toArray 78 (0, 0)) :: (h3 ++ R)) := hO4
  exact ⟨rfl, _, h3, hr3, hO4.sub (.cons_cons _ (.cons _ (.cons _ (List.Sublist.refl _)))), hU4, hm3, hb⟩
/-- edges: one is told -/
theorem st_yield (h : EdO W ks R es b w) (hn : es.length ≤ 1000000000) (x y : Int) (hk : ∀ w', EdO W ks R (es ++ [(x, y)]) b w' → K (.tuple #[]) w') :
    (std Tryz.prog).step (sBuild 78 [(0, .int .i64 x), (1, .int .i64 y)]) w fun v w => (std Tryz.prog).step (sCallV (yieldV b) [v]) w K := by
  rw [step_run (build_ed _ _ _), step_enter (call_yield _ _ _)]
  exact CallsR.mono (yield_spec h hn (x, y)) fun u w' ⟨h1, h2⟩ => by subst h1; exact hk w' h2
theorem EdO.range {κ ν : Type} [DecidableEq κ] {t kt et : TypeId} {ke : κ → Value} {ve : ν → Value} {m : Nat} {o : Obj} {l : List (κ × ν)} (ht : Tryz.prog.underlying t = some (.map kt et)) (h : EdO W ks R es b w) (hi : (m, o) ∈ R) (hm : MapO ke ve l o)
    (hK : ∀ g w' ob, IterH ke ve m o l ob → EdO W ks ((g, ob) :: R) es b w' → W.heap.size ≤ g → K (.pointer (some ⟨g, 0, none⟩)) w') : (std Tryz.prog).step (sRange t (.map (some m))) w K := by
  obtain ⟨v, hl, hr, hO, hU, hmine, hb⟩ := h
  obtain ⟨i, hi'⟩ := List.getElem?_of_mem (List.mem_cons_of_mem (edB b v) (List.mem_append_right hl hi))
  refine st_range ht hU hO i hi' hm ?_
  intro g w' ob hI hU' hO' hg
  exact hK g w' ob hI ⟨v, hl, hr, hO'.perm edPerm, hU', hmine, hb⟩ hg
theorem EdO.next {κ ν : Type} [DecidableEq κ] {ty : TypeId} {ke : κ → Value} {ve : ν → Value} {r m : Nat} {o ob : Obj} {left : List (κ × ν)} (h : EdO W ks ((r, ob) :: R) es b w) (hj : (m, o) ∈ R) (hI : IterH ke ve m o left ob) (hr : W.heap.size ≤ r)
    (h0 : left = [] → K (.tuple #[.bool false]) w)
    (h1 : ∀ (p : κ × ν) (left' : List (κ × ν)) (w' : World) (ob' : Obj), (p :: left').Perm left → IterH ke ve m o left' ob' → (sEntry (.pointer (some ⟨r, 0, none⟩))).run Tryz.prog w' = .ok (.value (.tuple #[ke p.1, ve p.2])) w' → EdO W ks ((r, ob') :: R) es b w' → K (.tuple #[.bool true, ke p.1, ve p.2]) w') : (std Tryz.prog).step (sNext (.pointer (some ⟨r, 0, none⟩)) false ty) w K := by
  obtain ⟨v, hl, hrow, hO, hU, hmine, hb⟩ := h
  have hO := hO.perm edPerm.symm
  obtain ⟨j, hj'⟩ := List.getElem?_of_mem (List.mem_cons_of_mem (r, ob) (List.mem_cons_of_mem (edB b v) (List.mem_append_right hl hj)))
  refine st_next hU hO 0 rfl j hj' hI (.inr hr) h0 ?_
  intro p left' w' ob' hperm hI' hent hU' hO'
  have hO' : Owns w' ((r, ob') :: edB b v :: (hl ++ R)) := hO'
  refine h1 p left' w' ob' hperm hI' (hent w' (hO'.at_ 0 rfl) (hO'.2 (m, o) (List.mem_cons_of_mem _ (List.mem_cons_of_mem _ (List.mem_append_right _ hj))))) ⟨v, hl, hrow, hO'.perm edPerm, hU', hmine, hb⟩
end
end Go.Proofs.YtakifgecgmdjcaaGreat

/- Locks: edges of one who waits. -/
namespace Go.Proofs.YtakifgecgmdjcaaGreat
open Go Xf Go.RowKit
set_option linter.unusedVariables false
set_option linter.unusedSimpArgs false
set_option maxRecDepth 100000

def wantOf (ws : List (Int × Wt)) (x : Int) : Int := ((aGet ws x).getD ⟨[], 0⟩).mode
def heldE (n : Nm) (m x : Int) (p : Int × Int) : Bool := decide (p.1 ≠ x) && !bes (sureN p.2) (sureN m)
theorem field_want (v : Wt) (w : World) : (sField 31 (wtV v) 1).run Tryz.prog w = .ok (.value (.int .i64 v.mode)) w := by kernel_rfl
section
variable {W w w' : World} {ks : List Nat} {R R' : List (Nat × Obj)} {es : List Ed} {b : Nat} {K : Value → World → Prop}
theorem edges_held {bh : Nat} {oh : Obj} {n : Nm} {x m : Int} {Q : World → Prop} (h : EdO W ks R es b w) (hm : (bh, oh) ∈ R) (hmap : MapO keyI keyI n.held oh) (hn : es.length + n.held.length ≤ 1000000000)
    (hQ : ∀ es' w', EdO W ks R es' b w' → (∀ e, e ∈ es' ↔ e ∈ es ∨ (e.1 = x ∧ ∃ p ∈ n.held, p.1 = e.2 ∧ heldE n m x p = true)) → es'.length ≤ es.length + n.held.length → Q w') :
    (std Tryz.prog).step (sRange 93 (.map (some bh))) w fun v55_1 w =>
    (std Tryz.prog).loop [] w fun dv_4 vs_4 w again_4 =>
    (std Tryz.prog).step (sNext v55_1 false 0) w fun v56_1 w =>
    (std Tryz.prog).step (sExtract v56_1 0) w fun v57_1 w =>
    (std Tryz.prog).bool v57_1
    ((std Tryz.prog).step (sEntry v55_1) w fun v58_1 w =>
    (std Tryz.prog).step (sExtract v58_1 0) w fun v59_1 w =>
    (std Tryz.prog).step (sExtract v58_1 1) w fun v60_1 w =>
    (std Tryz.prog).step (sBin .neq 3 (.tmp 61) (.tmp 62) v59_1 (.int .i64 x)) w fun v63_1 w =>
    (std Tryz.prog).bool v63_1
    ((std Tryz.prog).calls 61 #[v60_1, .int .i64 m] w fun v67_1 w =>
    (std Tryz.prog).step (sUn .not v67_1) w fun v68_1 w =>
    (std Tryz.prog).bool v68_1
    ((std Tryz.prog).step (sBuild 78 [(0, .int .i64 x), (1, v59_1)]) w fun v73_1 w =>
    (std Tryz.prog).step (sCallV (yieldV b) [v73_1]) w fun v74_1 w =>
    again_4 [] w)
    (again_4 [] w))
    (again_4 [] w))
    (Q w) := by
  refine h.range uHeld hm hmap ?_
  intro r w1 ob hI h1 hr
  let I : Nat → List Value → World → Prop := fun k vs w' => ∃ left ob es', k = left.length ∧ IterH keyI keyI bh oh left ob ∧ EdO W ks ((r, ob) :: R) es' b w' ∧ es'.length + left.length ≤ es.length + n.held.length ∧ (∀ e, (e ∈ es' ∨ (e.1 = x ∧ ∃ p ∈ left, p.1 = e.2 ∧ heldE n m x p = true)) ↔ (e ∈ es ∨ (e.1 = x ∧ ∃ p ∈ n.held, p.1 = e.2 ∧ heldE n m x p = true)))
  refine st_loop (fun vs w' => ∃ k, I k vs w') (minK I) ⟨_, n.held, ob, es, rfl, hI, h1, Nat.le_refl _, fun e => Iff.rfl⟩ ?_
  rintro dv vs w2 - hex
  obtain ⟨⟨left, ob2, es2, hk, hI2, h2, hl2, hx2⟩, -⟩ := minK_spec hex
  generalize minK I vs w2 = k at hk
  refine h2.next hm hI2 hr ?_ ?_
  · rintro rfl
    rw [px_ext1]
    simp only [BX]
    refine hQ es2 w2 (h2.weak (List.sublist_cons_self ..)) (fun e => ?_) (by simpa using hl2)
    rw [← hx2 e]; simp
  · intro p left' w3 ob3 hperm hI3 hent h3
    have hlen := hperm.length_eq
    simp only [List.length_cons] at hlen
    have hsplit : ∀ e : Ed, (∃ p' ∈ left, p'.1 = e.2 ∧ heldE n m x p' = true) ↔ ((p.1 = e.2 ∧ heldE n m x p = true) ∨ ∃ p' ∈ left', p'.1 = e.2 ∧ heldE n m x p' = true) := fun e => by
      constructor
      · rintro ⟨p', hp', hh⟩
        rcases List.mem_cons.1 (hperm.mem_iff.2 hp') with rfl | hp'
        · exact .inl hh
        · exact .inr ⟨p', hp', hh⟩
      · rintro (hh | ⟨p', hp', hh⟩)
        · exact ⟨p, hperm.mem_iff.1 (List.mem_cons_self ..), hh⟩
        · exact ⟨p', hperm.mem_iff.1 (List.mem_cons_of_mem _ hp'), hh⟩
    have skip : heldE n m x p = false → ∀ {w'}, EdO W ks ((r, ob3) :: R) es2 b w' → (∃ k', I k' [] w') ∧ minK I [] w' < k := fun hp {w'} h' => by
      refine minK_go (I := I) (k' := left'.length) ⟨left', ob3, es2, rfl, hI3, h', by omega, fun e => ?_⟩ (by omega)
      rw [← hx2 e, hsplit e, hp]; simp
    simp only [PX, BX]
    rw [step_run hent]
    simp only [PX, BX]
    refine ⟨fun hne => ?_, fun he => ?_⟩
    · refine st_call (Beside_spec w3 p.2 m) ?_
      rintro _ w4 ⟨rfl, hU4⟩
      have h4 := h3.upd hU4
      simp only [PX]
      rw [bool_var]
      refine ⟨fun hb => ?_, fun hb => ?_⟩
      · have hp : heldE n m x p = true := by unfold heldE; rw [decide_eq_true hne]; exact hb
        refine st_yield h4 (by omega) x p.1 ?_
        intro w5 h5
        refine minK_go (I := I) (k' := left'.length) ⟨left', ob3, _, rfl, hI3, h5, by rw [List.length_append, List.length_singleton]; omega, fun e => ?_⟩ (by omega)
        rw [← hx2 e, hsplit e, List.mem_append, List.mem_singleton]
        constructor
        · rintro ((h | rfl) | ⟨h1, h2⟩)
          · exact .inl h
          · exact .inr ⟨rfl, .inl ⟨rfl, hp⟩⟩
          · exact .inr ⟨h1, .inr h2⟩
        · rintro (h | ⟨h1, ⟨h2, -⟩ | h2⟩)
          · exact .inl (.inl h)
          · exact .inl (.inr (Prod.ext h1 h2.symm))
          · exact .inr ⟨h1, h2⟩
      · exact skip (by unfold heldE; rw [decide_eq_true hne]; exact hb) h4
    · exact skip (by unfold heldE; rw [decide_eq_false he]; rfl) h3
theorem edges_k2 {v33 : Value} {rs : List Int} {i : Nat} {x : Int} {vs : List Value} {again : List Value → World → Prop} {Q : Value → World → Prop} {hrow : List (Nat × Obj)} (h : EdO W ks R es b w) (hr : RowH 3 1 v33 rs.length (intsV .i64 rs) hrow) (hs : ∀ p ∈ hrow, p ∈ R) (hi : i < rs.length) (hrl : rs.length ≤ 1000000) (e0 : vs.getD 0 undef = .int .i64 i) (hn : es.length + i ≤ 1000000000)
    (hQ : ∀ es' w', EdO W ks R es' b w' → (∀ e, e ∈ es' ↔ e ∈ es ∨ (e.1 = x ∧ e.2 ∈ rs.take i)) → es'.length ≤ es.length + i → lock_Table_edges_k1 (std Tryz.prog) vs again w' Q) :
    lock_Table_edges_k2 (std Tryz.prog) (yieldV b) v33 vs again (.int .i64 x) w Q := by
  unfold lock_Table_edges_k2
  have hrd : ∀ {w' es'}, EdO W ks R es' b w' → Rd w' 1 v33 rs.length (intsV .i64 rs) := fun {w' es'} h' =>
    hr.rd (F := []) ⟨by rw [List.append_nil]; rcases hr.2 with ⟨_, _, rfl⟩ | ⟨g', _, _, _, rfl, _⟩ <;> simp, fun p hp => h'.at_ (hs p (by simpa using hp))⟩
  obtain ⟨a0, c, rfl, -⟩ := int_at (hrd h) hi
  have hc : rs.length ≤ c := by obtain ⟨_, _, he, hcc, -⟩ := hrd h; injection he with _ _ he; rw [he]; exact hcc
  rw [e0, step_run (run_sliceTo (i := ((i : Nat) : Int)) u44 sz3 (by omega) (by omega)), show ((i : Nat) : Int).toNat = i by omega, if_neg (by omega)]
  simp only [Option.map_some, add_zero]
  simp (disch := first | assumption | omega) only [PX]
  refine st_loop (fun vs2 w' => ∃ (j : Nat) (es' : List Ed), j ≤ i ∧ vs2.getD 0 undef = .int .i64 j ∧ EdO W ks R es' b w' ∧ es'.length ≤ es.length + j ∧ (∀ e, e ∈ es' ↔ e ∈ es ∨ (e.1 = x ∧ e.2 ∈ rs.take j))) (fun vs2 _ => i - (intOf (vs2.getD 0 undef)).toNat) ⟨0, es, Nat.zero_le _, rfl, h, Nat.le_refl _, fun e => by simp⟩ ?_
  rintro dv vs2 w2 - ⟨j, es2, hj, f0, h2, hl2, hx2⟩
  simp (disch := first | assumption | omega) only [f0, PX, BX]
  refine ⟨fun hlt => ?_, fun hge => ?_⟩
  rotate_left
  · obtain rfl : j = i := by omega
    exact hQ es2 w2 h2 hx2 hl2
  have hj' : j < rs.length := by omega
  obtain ⟨a, c', he, hcell⟩ := int_at (hrd h2) hj'
  injection he with q1 q2 q3
  injection q1 with q1
  subst q1
  simp (disch := first | assumption | omega) only [PX, LX, Nat.mul_one]
  refine st_yield h2 (by omega) x rs[j] ?_
  intro w3 h3
  simp (disch := omega) only [PX, w64]
  refine ⟨⟨j + 1, _, by omega, rfl, h3, by rw [List.length_append, List.length_singleton]; omega, fun e => ?_⟩, ?_⟩
  · rw [List.take_succ_eq_append_getElem hj', List.mem_append, List.mem_singleton, hx2 e, List.mem_append, List.mem_singleton]
    constructor
    · rintro ((h | ⟨h1, h2⟩) | rfl)
      · exact .inl h
      · exact .inr ⟨h1, .inl h2⟩
      · exact .inr ⟨rfl, .inr rfl⟩
    · rintro (h | ⟨h1, h2 | h2⟩)
      · exact .inl (.inl h)
      · exact .inl (.inr ⟨h1, h2⟩)
      · exact .inr (Prod.ext h1 h2)
  · simp only [List.getD_cons_zero, intOf]; omega
end
end Go.Proofs.YtakifgecgmdjcaaGreat

/- Locks: edges of a name. -/
namespace Go.Proofs.YtakifgecgmdjcaaGreat
open Go Xf Go.RowKit
set_option linter.unusedVariables false
set_option linter.unusedSimpArgs false
set_option maxRecDepth 100000

def edgeI (ws : List (Int × Wt)) (n : Nm) (i : Nat) (e : Ed) : Prop := (rowsN n)[i]? = some e.1 ∧ ((∃ p ∈ n.held, p.1 = e.2 ∧ heldE n (wouldN n e.1 (wantOf ws e.1)) e.1 p = true) ∨ e.2 ∈ (rowsN n).take i)
def edgeN (ws : List (Int × Wt)) (n : Nm) (e : Ed) : Prop := ∃ i, edgeI ws n i e
def EdgeT (T : Tb) (e : Ed) : Prop := ∃ p ∈ T.names, edgeN T.waits p.2.2 e
def szE (n : Nm) : Nat := (rowsN n).length * (n.held.length + (rowsN n).length)
theorem TbB.memAll {T : Tb} {on ow : Obj} {hs : List (Nat × Obj)} (hB : TbB T on ow hs) {p : List UInt8 × (Nat × Nm)} (hp : p ∈ T.names) : ∃ bh oh vt vr ht hr, (p.2.1, nmO bh vt vr) ∈ hs ∧ (bh, oh) ∈ hs ∧ MapO keyI keyI p.2.2.held oh ∧
    RowH 3 1 vt p.2.2.turns.length (intsV .i64 p.2.2.turns) ht ∧ RowH 3 1 vr p.2.2.row.length (intsV .i64 p.2.2.row) hr ∧ (∀ x ∈ ht, x ∈ hs) ∧ (∀ x ∈ hr, x ∈ hs) := by
  obtain ⟨A, B, e⟩ := List.append_of_mem hp
  have h3 := hB.2.2
  rw [e] at h3
  obtain ⟨hn, hF, ⟨bh, oh, vt, vr, ht, hr, rfl, hmap, h4, h5⟩, -, hperm⟩ := NmsH.mid.1 h3
  exact ⟨bh, oh, vt, vr, ht, hr, hperm.mem_iff.1 (by simp), hperm.mem_iff.1 (by simp), hmap, h4, h5, fun x hx => hperm.mem_iff.1 (by simp [hx]), fun x hx => hperm.mem_iff.1 (by simp [hx])⟩
theorem empty_ints (w : World) : (sBuildSlice 44 0 []).run Tryz.prog w = .ok (.value (.slice (some ⟨w.heap.size, 0, none⟩) 0 0)) (w.alloc (.cells #[] 3)) := by kernel_rfl
section
variable {W w w' : World} {ks : List Nat} {R R' : List (Nat × Obj)} {es : List Ed} {b : Nat} {K : Value → World → Prop}
theorem EdO.rdI (h : EdO W ks R es b w) {v : Value} {l : List Int} {hr : List (Nat × Obj)} (hrow : RowH 3 1 v l.length (intsV .i64 l) hr) (hs : ∀ p ∈ hr, p ∈ R) : Rd w 1 v l.length (intsV .i64 l) :=
  hrow.rd (F := []) ⟨by rw [List.append_nil]; rcases hrow.2 with ⟨_, _, rfl⟩ | ⟨g', _, _, _, rfl, _⟩ <;> simp, fun p hp => h.at_ (hs p (by simpa using hp))⟩
theorem EdO.append {v u : Value} {l l2 : List Int} {hr : List (Nat × Obj)} (h : EdO W ks (hr ++ R) es b w) (hrow : RowH 3 1 v l.length (intsV .i64 l) hr) (hm : ∀ p ∈ hr, p.1 ∈ ks ∨ W.heap.size ≤ p.1) (hu : Rd w 1 u l2.length (intsV .i64 l2)) (hl : l.length + l2.length ≤ 1000000)
    (hk : ∀ v' hr' w', RowH 3 1 v' (l ++ l2).length (intsV .i64 (l ++ l2)) hr' → EdO W ks (hr' ++ R) es b w' → (∀ p ∈ hr', p.1 ∈ ks ∨ W.heap.size ≤ p.1) → K v' w') :
    (std Tryz.prog).step (sBuiltin .append #[44, 44] 44 [false, false] [v, u]) w K := by
  obtain ⟨ve, hl', h1, h2, h3, h4, h5⟩ := h
  obtain ⟨inf, e1, e2, e3, e4⟩ := info_int
  have hP : Owns w (hr ++ (edB b ve :: (hl' ++ R))) := h2.perm (by
    classical
    refine List.perm_iff_count.2 fun y => ?_
    simp only [List.count_cons, List.count_append]
    omega)
  have hmx : (1000000 : Nat) ≤ maxLen := by decide
  refine st_append u44 e1 e2 e3 e4 rfl (by omega) hrow hP h3 hm hu (intsV_one _ _) (by omega) (by omega) ?_
  intro v' w' hr' hrow' hO' hU' hm'
  have hrow' : RowH 3 1 v' (l ++ l2).length (intsV .i64 (l ++ l2)) hr' := by
    rw [List.length_append]
    have : intsV .i64 (l ++ l2) = intsV .i64 l ++ intsV .i64 l2 := by simp [intsV]
    rw [this]; exact hrow'
  refine hk v' hr' w' hrow' ⟨ve, hl', h1, hO'.perm ?_, hU', h4, h5⟩ hm'
  classical
  refine List.perm_iff_count.2 fun y => ?_
  simp only [List.count_cons, List.count_append]
  omega
/-- the row of a name, in memory of its own -/
theorem edges_row {gn bh : Nat} {vt vr : Value} {n : Nm} {ht hr : List (Nat × Obj)} (h : EdO W ks R es b w) (hg : (gn, nmO bh vt vr) ∈ R) (h1 : RowH 3 1 vt n.turns.length (intsV .i64 n.turns) ht) (h2 : RowH 3 1 vr n.row.length (intsV .i64 n.row) hr) (hs1 : ∀ p ∈ ht, p ∈ R) (hs2 : ∀ p ∈ hr, p ∈ R) (hl : n.turns.length + n.row.length ≤ 1000000)
    (hk : ∀ v hrow w', RowH 3 1 v (rowsN n).length (intsV .i64 (rowsN n)) hrow → EdO W ks (hrow ++ R) es b w' → K v w') :
    (std Tryz.prog).draw w fun S_1 w =>
    (std Tryz.prog).stepS S_1 (sNil (.pointer (some ⟨gn, 0, none⟩))) fun v25_1 =>
    (std Tryz.prog).stepS S_1 (sFieldAddr 95 v25_1 1) fun v26_1 =>
    (std Tryz.prog).stepS S_1 (sLoad 44 v26_1) fun v27_1 =>
    (std Tryz.prog).stepS S_1 (sNil (.pointer (some ⟨gn, 0, none⟩))) fun v30_1 =>
    (std Tryz.prog).stepS S_1 (sFieldAddr 95 v30_1 2) fun v31_1 =>
    (std Tryz.prog).stepS S_1 (sLoad 44 v31_1) fun v32_1 =>
    (std Tryz.prog).step (sBuildSlice 44 0 []) w fun v23_1 w =>
    (std Tryz.prog).keepS S_1 w fun S_2 =>
    (std Tryz.prog).step (sBuiltin .append #[44, 44] 44 [false, false] [v23_1, v27_1]) w fun v28_1 w =>
    (std Tryz.prog).keepS S_2 w fun S_3 =>
    (std Tryz.prog).step (sBuiltin .append #[44, 44] 44 [false, false] [v28_1, v32_1]) w fun v33_1 w =>
    (std Tryz.prog).keepT w fun S_4 => K v33_1 w := by
  have hd := h.upd (Upd.drew w [])
  let S : World → Prop := fun w' => w'.heap[gn]? = some (nmO bh vt vr)
  have hS : S w.drew := hd.at_ hg
  have hne : ∃ w', S w' := ⟨_, hS⟩
  obtain ⟨A1, n1, rfl⟩ := RowH.sl' h1
  obtain ⟨A2, n2, rfl⟩ := RowH.sl' h2
  have e1 : ∀ w', S w' → w'.cell? ⟨gn, 1, none⟩ = some (.slice A1 n.turns.length n1) := fun w' hs => (cell_at hs).trans rfl
  have e2 : ∀ w', S w' → w'.cell? ⟨gn, 2, none⟩ = some (.slice A2 n.row.length n2) := fun w' hs => (cell_at hs).trans rfl
  refine st_draw S hS ?_
  simp (disch := first | exact hne | assumption | omega) only [SX, SLX, add_mk, Nat.reduceAdd]
  obtain ⟨ve, hl', q1, q2, q3, q4, q5⟩ := hd
  refine st_newRow (fun w => empty_ints w) q3 q2 ?_
  intro gr w1 hU1 hO1 hgr
  have hE1 : EdO W ks ([(gr, .cells #[] 3 (0, 0))] ++ R) es b w1 := ⟨ve, hl', q1, hO1.perm edPerm, hU1, q4, q5⟩
  refine st_same (hE1.at_ (p := (gn, nmO bh (.slice A1 n.turns.length n1) (.slice A2 n.row.length n2))) (List.mem_append_right _ hg)) ?_
  have hr0 : RowH 3 1 (.slice (some ⟨gr, 0, none⟩) 0 0) ([] : List Int).length (intsV .i64 []) [(gr, .cells #[] 3 (0, 0))] := ⟨rfl, .inr ⟨gr, 0, #[], rfl, rfl, Nat.le_refl _, Nat.zero_le _, rfl, rfl⟩⟩
  refine hE1.append hr0 (fun p hp => by rw [List.mem_singleton] at hp; subst hp; exact .inr hgr) (hE1.rdI h1 fun p hp => List.mem_append_right _ (hs1 p hp)) (by simp; omega) ?_
  intro v2 hr2 w2 hrow2 hE2 hm2
  refine st_same (hE2.at_ (p := (gn, nmO bh (.slice A1 n.turns.length n1) (.slice A2 n.row.length n2))) (List.mem_append_right _ hg)) ?_
  refine hE2.append hrow2 hm2 (hE2.rdI h2 fun p hp => List.mem_append_right _ (hs2 p hp)) (by simp; omega) ?_
  intro v3 hr3 w3 hrow3 hE3 hm3
  refine st_keepT (fun _ => True) trivial ?_
  exact hk v3 hr3 w3 hrow3 hE3
end
end Go.Proofs.YtakifgecgmdjcaaGreat

/- Locks: edges of all who wait for a name. -/
namespace Go.Proofs.YtakifgecgmdjcaaGreat
open Go Xf Go.RowKit
set_option linter.unusedVariables false
set_option linter.unusedSimpArgs false
set_option maxRecDepth 100000

theorem TbB.memNm {T : Tb} {on ow : Obj} {hs : List (Nat × Obj)} (hB : TbB T on ow hs) {p : List UInt8 × (Nat × Nm)} (hp : p ∈ T.names) : ∃ hN, NmH p.2.2 p.2.1 hN ∧ ∀ x ∈ hN, x ∈ hs := by
  obtain ⟨A, B, e⟩ := List.append_of_mem hp
  have h3 := hB.2.2
  rw [e] at h3
  obtain ⟨hn, hF, h1, -, hperm⟩ := NmsH.mid.1 h3
  exact ⟨hn, h1, fun x hx => hperm.mem_iff.1 (List.mem_append_left _ hx)⟩
section
variable {W w w' : World} {ks : List Nat} {R R' : List (Nat × Obj)} {es : List Ed} {b : Nat} {K : Value → World → Prop}
theorem edges_rows {ws : List (Int × Wt)} {g gn bn bw : Nat} {ow : Obj} {v33 : Value} {n : Nm} {hN hrow : List (Nat × Obj)} {Q : Value → World → Prop} {again1 : World → Prop} (h : EdO W ks R es b w) (hr : RowH 3 1 v33 (rowsN n).length (intsV .i64 (rowsN n)) hrow) (hs : ∀ p ∈ hrow, p ∈ R) (hg : (g, tbO bn bw) ∈ R) (hw : (bw, ow) ∈ R) (hwm : MapO keyI wtV ws ow) (hN1 : NmH n gn hN) (hN2 : ∀ p ∈ hN, p ∈ R) (hrl : (rowsN n).length ≤ 1000000) (hn : es.length + szE n ≤ 1000000000)
    (hQ : ∀ es' w', EdO W ks R es' b w' → (∀ e, e ∈ es' ↔ e ∈ es ∨ edgeN ws n e) → es'.length ≤ es.length + szE n → again1 w') :
    (std Tryz.prog).step (sBuiltin .len #[44] 3 [false] [v33]) w fun v35_1 w =>
    (std Tryz.prog).loop [.int .i64 0] w fun dv_2 vs_2 w again_2 =>
    (std Tryz.prog).step (sBin .lss 3 (.tmp 36) (.tmp 35) (vs_2.getD 0 undef) v35_1) w fun v37_1 w =>
    (std Tryz.prog).bool v37_1
    ((std Tryz.prog).step (sIndexAddr 44 v33 (vs_2.getD 0 undef)) w fun v39_1 w =>
    (std Tryz.prog).step (sLoad 3 v39_1) w fun v40_1 w =>
    (std Tryz.prog).step (sNil (.pointer (some ⟨g, 0, none⟩))) w fun v44_1 w =>
    (std Tryz.prog).step (sFieldAddr 67 v44_1 1) w fun v45_1 w =>
    (std Tryz.prog).step (sLoad 65 v45_1) w fun v46_1 w =>
    (std Tryz.prog).step (sLookup 65 v46_1 v40_1 false) w fun v48_1 w =>
    (std Tryz.prog).step (sField 31 v48_1 1) w fun v49_1 w =>
    (std Tryz.prog).calls 51 #[.pointer (some ⟨gn, 0, none⟩), v40_1, v49_1] w fun v50_1 w =>
    (std Tryz.prog).step (sNil (.pointer (some ⟨gn, 0, none⟩))) w fun v52_1 w =>
    (std Tryz.prog).step (sFieldAddr 95 v52_1 0) w fun v53_1 w =>
    (std Tryz.prog).step (sLoad 93 v53_1) w fun v54_1 w =>
    (std Tryz.prog).step (sRange 93 v54_1) w fun v55_1 w =>
    (std Tryz.prog).loop [] w fun dv_4 vs_4 w again_4 =>
    (std Tryz.prog).step (sNext v55_1 false 0) w fun v56_1 w =>
    (std Tryz.prog).step (sExtract v56_1 0) w fun v57_1 w =>
    (std Tryz.prog).bool v57_1
    ((std Tryz.prog).step (sEntry v55_1) w fun v58_1 w =>
    (std Tryz.prog).step (sExtract v58_1 0) w fun v59_1 w =>
    (std Tryz.prog).step (sExtract v58_1 1) w fun v60_1 w =>
    (std Tryz.prog).step (sBin .neq 3 (.tmp 61) (.tmp 62) v59_1 v40_1) w fun v63_1 w =>
    (std Tryz.prog).bool v63_1
    ((std Tryz.prog).calls 61 #[v60_1, v50_1] w fun v67_1 w =>
    (std Tryz.prog).step (sUn .not v67_1) w fun v68_1 w =>
    (std Tryz.prog).bool v68_1
    ((std Tryz.prog).step (sBuild 78 [(0, v40_1), (1, v59_1)]) w fun v73_1 w =>
    (std Tryz.prog).step (sCallV (yieldV b) [v73_1]) w fun v74_1 w =>
    again_4 [] w)
    (again_4 [] w))
    (again_4 [] w))
    (lock_Table_edges_k2 (std Tryz.prog) (yieldV b) v33 vs_2 again_2 v40_1 w Q))
    (again1 w) := by
  have hcnt : szE n = (rowsN n).length * (n.held.length + (rowsN n).length) := rfl
  generalize hD : n.held.length + (rowsN n).length = D at hcnt
  obtain ⟨bh, oh, vt, vr, ht, hr', rfl, hmap, -, -⟩ := id hN1
  have hbh := hN2 (bh, oh) (by simp)
  have hgn := hN2 (gn, nmO bh vt vr) (by simp)
  obtain ⟨A, c, rfl⟩ := RowH.sl' hr
  simp (disch := first | assumption | omega) only [PX]
  refine st_loop (fun vs w' => ∃ (i : Nat) (R2 : List (Nat × Obj)) (es' : List Ed), i ≤ (rowsN n).length ∧ vs.getD 0 undef = .int .i64 i ∧ EdO W ks R es' b w' ∧ es'.length ≤ es.length + i * D ∧ (∀ e, e ∈ es' ↔ e ∈ es ∨ ∃ i', i' < i ∧ edgeI ws n i' e)) (fun vs _ => (rowsN n).length - (intOf (vs.getD 0 undef)).toNat) ⟨0, R, es, Nat.zero_le _, rfl, h, by omega, fun e => by simp⟩ ?_
  rintro dv vs w2 - ⟨i, R2, es2, hi, e0, h2, hl2, hx2⟩
  simp (disch := first | assumption | omega) only [e0, PX, BX]
  refine ⟨fun hlt => ?_, fun hge => ?_⟩
  rotate_left
  · obtain rfl : i = (rowsN n).length := by omega
    refine hQ es2 w2 h2 (fun e => ?_) (by rw [hcnt]; exact hl2)
    rw [hx2 e]
    constructor
    · rintro (h | ⟨i', -, h⟩)
      · exact .inl h
      · exact .inr ⟨i', h⟩
    · rintro (h | ⟨i', h⟩)
      · exact .inl h
      · exact .inr ⟨i', (List.getElem?_eq_some_iff.1 h.1).1, h⟩
  have hi' : i < (rowsN n).length := by omega
  have hmul : i * D + D ≤ (rowsN n).length * D := by
    have := Nat.mul_le_mul_right D (show i + 1 ≤ (rowsN n).length by omega)
    rw [Nat.succ_mul] at this; exact this
  obtain ⟨a, c', he, hcell⟩ := int_at (h2.rdI hr hs) hi'
  injection he with q1 q2 q3
  subst q1
  have c1 : w2.cell? ⟨g, 1, none⟩ = some (.map (some bw)) := (cell_at (h2.at_ hg)).trans rfl
  simp (disch := first | assumption | omega) only [PX, LX, Nat.mul_one, add_mk, Nat.reduceAdd]
  rw [step_run (run_lookup uWaits keyI_ok ze_want (h2.at_ hw) hwm (rowsN n)[i] false), if_neg Bool.false_ne_true, waits_get, step_run (field_want _ _)]
  generalize hx : (rowsN n)[i] = x at hcell
  obtain ⟨ve, hl', p1, p2, p3, p4, p5⟩ := id h2
  refine st_call (would_spec hN1 (fun p hp => List.mem_cons_of_mem _ (List.mem_append_right _ (hN2 p hp))) p2 x _) ?_
  rintro _ w3 ⟨rfl, hU3⟩
  have h3 := h2.upd hU3
  have c0 : w3.cell? ⟨gn, 0, none⟩ = some (.map (some bh)) := (cell_at (h3.at_ hgn)).trans rfl
  simp (disch := first | assumption | omega) only [PX, LX, add_mk, Nat.reduceAdd]
  refine edges_held (n := n) (x := x) (m := wouldN n x (wantOf ws x)) h3 hbh hmap (by omega) ?_
  intro es4 w4 h4 hx4 hl4
  refine edges_k2 (x := x) h4 hr hs hi' hrl e0 (by omega) ?_
  intro es5 w5 h5 hx5 hl5
  unfold lock_Table_edges_k1
  simp (disch := omega) only [e0, PX, w64]
  refine ⟨⟨i + 1, R, es5, by omega, rfl, h5, by rw [Nat.succ_mul]; omega, fun e => ?_⟩, ?_⟩
  · rw [hx5 e, hx4 e, hx2 e]
    have hxi : (rowsN n)[i]? = some x := by rw [List.getElem?_eq_getElem hi', hx]
    constructor
    · rintro (((h | ⟨i', h1, h2⟩) | ⟨h1, h2⟩) | ⟨h1, h2⟩)
      · exact .inl h
      · exact .inr ⟨i', by omega, h2⟩
      · exact .inr ⟨i, by omega, by rw [h1]; exact hxi, .inl (by rw [h1]; exact h2)⟩
      · exact .inr ⟨i, by omega, by rw [h1]; exact hxi, .inr h2⟩
    · rintro (h | ⟨i', h1, h2⟩)
      · exact .inl (.inl (.inl h))
      · rcases Nat.lt_or_ge i' i with hlt' | hge'
        · exact .inl (.inl (.inr ⟨i', hlt', h2⟩))
        · obtain rfl : i' = i := by omega
          obtain ⟨h2, h3⟩ := h2
          have hex : e.1 = x := by rw [hxi] at h2; injection h2 with h2; exact h2.symm
          rcases h3 with h3 | h3
          · exact .inl (.inr ⟨hex, by rw [hex] at h3; exact h3⟩)
          · exact .inr ⟨hex, h3⟩
  · simp only [List.getD_cons_zero, intOf]; omega
end
end Go.Proofs.YtakifgecgmdjcaaGreat

/- Locks: edges, whole. -/
namespace Go.Proofs.YtakifgecgmdjcaaGreat
open Go Xf Go.RowKit
set_option linter.unusedVariables false
set_option linter.unusedSimpArgs false
set_option maxRecDepth 100000

def sumE (l : List (List UInt8 × (Nat × Nm))) : Nat := (l.map fun p => szE p.2.2).sum
theorem sumE_perm {l l' : List (List UInt8 × (Nat × Nm))} (h : l.Perm l') : sumE l = sumE l' := (h.map _).sum_nat
theorem sumE_le {B : Nat} : ∀ l : List (List UInt8 × (Nat × Nm)), (∀ p ∈ l, szE p.2.2 ≤ B) → sumE l ≤ l.length * B
  | [], _ => Nat.zero_le _
  | p :: l, h => by
    have h1 := sumE_le l fun p hp => h p (List.mem_cons_of_mem _ hp)
    have h2 := h p (List.mem_cons_self ..)
    unfold sumE at *
    rw [List.map_cons, List.sum_cons, List.length_cons, Nat.succ_mul]
    omega
theorem szE_le {n : Nm} {B : Nat} (h : szN n ≤ B) : szE n ≤ B * B := by
  have : n.held.length + (rowsN n).length ≤ B := by unfold szN at h; unfold rowsN; rw [List.length_append]; omega
  unfold szE
  exact Nat.mul_le_mul (by omega) this
section
variable {W w w' : World} {ks : List Nat} {F R R' : List (Nat × Obj)} {es : List Ed} {b g : Nat} {T : Tb} {K : Value → World → Prop}
theorem edges_spec {B bn bw : Nat} {on ow : Obj} {hs : List (Nat × Obj)} (h : EdO W ks (tbL g bn bw on ow hs ++ F) [] b w) (hB : TbB T on ow hs) (hfine : Fine T B) (hB5 : B ≤ 500) :
    CallsR Tryz.prog 33 #[.pointer (some ⟨g, 0, none⟩), yieldV b] w fun u w' => u = .tuple #[] ∧ ∃ es, EdO W ks (tbL g bn bw on ow hs ++ F) es b w' ∧ (∀ e, e ∈ es ↔ EdgeT T e) ∧ es.length ≤ 200000000 := by
  apply lock_Table_edges_sound
  unfold lock_Table_edges_x
  have hgm : (g, tbO bn bw) ∈ tbL g bn bw on ow hs ++ F := List.mem_append_left _ (by simp [tbL])
  have hbnm : (bn, on) ∈ tbL g bn bw on ow hs ++ F := List.mem_append_left _ (by simp [tbL])
  have hbwm : (bw, ow) ∈ tbL g bn bw on ow hs ++ F := List.mem_append_left _ (by simp [tbL])
  have hhs : ∀ p ∈ hs, p ∈ tbL g bn bw on ow hs ++ F := fun p hp => List.mem_append_left _ (by simp [tbL, hp])
  generalize tbL g bn bw on ow hs ++ F = R at h hgm hbnm hbwm hhs
  have c0 : w.cell? ⟨g, 0, none⟩ = some (.map (some bn)) := (cell_at (h.at_ hgm)).trans rfl
  simp (disch := first | assumption | omega) only [PX, LX, add_mk, Nat.reduceAdd]
  refine h.range uNames hbnm hB.1 ?_
  intro r w1 ob hI h1 hr
  have hsz : ∀ p ∈ T.names, szE p.2.2 ≤ B * B := fun p hp => szE_le (hfine.sz.nm p.1 p.2 (mem_names hfine.ok.keys hp))
  have hBB : B * B ≤ 250000 := Nat.mul_le_mul hB5 hB5
  have hsum : sumE T.names ≤ 125000000 := Nat.le_trans (sumE_le T.names hsz) (Nat.le_trans (Nat.mul_le_mul hfine.ok.len (Nat.le_refl (B * B))) (Nat.mul_le_mul hB5 hBB))
  let I : Nat → List Value → World → Prop := fun k vs w' => ∃ left ob es', k = left.length ∧ IterH strV ptV bn on left ob ∧ EdO W ks ((r, ob) :: R) es' b w' ∧ es'.length + sumE left ≤ sumE T.names ∧ (∀ p ∈ left, p ∈ T.names) ∧ (∀ e, (e ∈ es' ∨ ∃ p ∈ left, edgeN T.waits p.2.2 e) ↔ EdgeT T e)
  refine st_loop (fun vs w' => ∃ k, I k vs w') (minK I) ⟨_, T.names, ob, [], rfl, hI, h1, by simp, fun p hp => hp, fun e => by simp [EdgeT]⟩ ?_
  rintro dv vs w2 - hex
  obtain ⟨⟨left, ob2, es2, hk, hI2, h2, hl2, hsub2, hx2⟩, -⟩ := minK_spec hex
  generalize minK I vs w2 = k at hk
  refine h2.next hbnm hI2 hr ?_ ?_
  · rintro rfl
    rw [px_ext1]
    simp only [BX]
    refine ⟨trivial, es2, h2.weak (List.sublist_cons_self ..), fun e => ?_, by have : sumE [] = 0 := rfl; omega⟩
    rw [← hx2 e]; simp
  · intro p left' w3 ob3 hperm hI3 hent h3
    have hlen := hperm.length_eq
    simp only [List.length_cons] at hlen
    have hp : p ∈ T.names := hsub2 p (hperm.mem_iff.1 (List.mem_cons_self ..))
    have hpsz := hsz p hp
    have hs3 : sumE left = szE p.2.2 + sumE left' := by rw [← sumE_perm hperm]; unfold sumE; rw [List.map_cons, List.sum_cons]
    simp only [PX, BX]
    rw [step_run hent]
    simp only [PX, BX]
    obtain ⟨bh, oh, vt, vr, ht, hr', hm1, hm2, hmap, hrt, hrr, hs1, hs2⟩ := hB.memAll hp
    obtain ⟨hN, hN1, hN2⟩ := hB.memNm hp
    have hok := hfine.ok.nm p.1 p.2 (mem_names hfine.ok.keys hp)
    have hrl : (rowsN p.2.2).length ≤ 1000000 := by unfold rowsN; rw [List.length_append]; have := hok.1; have := hok.2.1; omega
    unfold ptV
    refine edges_row (n := p.2.2) h3 (List.mem_cons_of_mem _ (hhs _ hm1)) hrt hrr (fun x hx => List.mem_cons_of_mem _ (hhs _ (hs1 x hx))) (fun x hx => List.mem_cons_of_mem _ (hhs _ (hs2 x hx))) (by have := hok.1; have := hok.2.1; omega) ?_
    intro v33 hrow w4 hrow4 h4
    refine edges_rows (ws := T.waits) (n := p.2.2) h4 hrow4 (fun x hx => List.mem_append_left _ hx) (List.mem_append_right _ (List.mem_cons_of_mem _ hgm)) (List.mem_append_right _ (List.mem_cons_of_mem _ hbwm)) hB.2.1 hN1 (fun x hx => List.mem_append_right _ (List.mem_cons_of_mem _ (hhs _ (hN2 x hx)))) hrl (by omega) ?_
    intro es5 w5 h5 hx5 hl5
    refine minK_go (I := I) (k' := left'.length) ⟨left', ob3, es5, rfl, hI3, h5.weak (List.sublist_append_right _ _), by omega, fun p' hp' => hsub2 p' (hperm.mem_iff.1 (List.mem_cons_of_mem _ hp')), fun e => ?_⟩ (by omega)
    rw [hx5 e, ← hx2 e]
    constructor
    · rintro ((h | h) | ⟨p', hp', h⟩)
      · exact .inl h
      · exact .inr ⟨p, hperm.mem_iff.1 (List.mem_cons_self ..), h⟩
      · exact .inr ⟨p', hperm.mem_iff.1 (List.mem_cons_of_mem _ hp'), h⟩
    · rintro (h | ⟨p', hp', h⟩)
      · exact .inl (.inl h)
      · rcases List.mem_cons.1 (hperm.mem_iff.2 hp') with rfl | hp'
        · exact .inl (.inr h)
        · exact .inr ⟨p', hp', h⟩
end
end Go.Proofs.YtakifgecgmdjcaaGreat

/- Locks: Compact of edges. -/
namespace Go.Proofs.YtakifgecgmdjcaaGreat
open Go Xf Go.RowKit
set_option linter.unusedVariables false
set_option linter.unusedSimpArgs false
set_option maxRecDepth 100000
theorem eqIn_ed (a b : Ed) (w : World) : (Op.equalIn 10000 78 (.agg (edV a).toArray) (.agg (edV b).toArray)).run Tryz.prog w = .ok (decide (a = b)) w := by
  have u3 := Tryz.underlying3
  have a3 := Tryz.isAgg3
  have z3 := Tryz.sizeOf3
  have hS : Tryz.prog.underlying 78 = some (.struct (Tryz.prog.fieldsOf 78)) := by kernel_rfl
  have hp : Tryz.prog.stoodInHeld 78 = false := by kernel_rfl
  have he : (a.1 == b.1 && a.2 == b.2) = decide (a = b) := by
    obtain ⟨a1, a2⟩ := a
    obtain ⟨b1, b2⟩ := b
    by_cases h1 : a1 = b1 <;> by_cases h2 : a2 = b2 <;> simp [h1, h2]
  rw [← he]
  simp only [edV]
  rw [show (10000 : Nat) = 9999 + 1 from rfl, run_equalIn_agg w 9999 78 _ _ hS hp]
  simp only [Program.fieldsOf, Tryz.underlying78]
  go_simp
  by_cases h1 : a.fst = b.fst <;> by_cases h2 : a.snd = b.snd <;> simp [h1, h2, Prod.ext_iff]
theorem hm_ed : Tryz.prog.eqGuardType Tryz.prog.depth 78 = false := by kernel_rfl
theorem eq_ed (x y : Operand) (a b : Ed) (w : World) : (sBin .eql 78 x y (.agg (edV a).toArray) (.agg (edV b).toArray)).run Tryz.prog w = .ok (.value (.bool (decide (a = b)))) w := by
  simp only [sBin, run_sV, Sem.run_bind, run_eqGuard_agg w .eql 78 x y _ _ hm_ed, Result.andThen_ok, run_eql_struct, eqIn_ed]
theorem ne_ed (x y : Operand) (a b : Ed) (w : World) : (sBin .neq 78 x y (.agg (edV a).toArray) (.agg (edV b).toArray)).run Tryz.prog w = .ok (.value (.bool (!decide (a = b)))) w := by
  simp only [sBin, run_sV, Sem.run_bind, run_eqGuard_agg w .neq 78 x y _ _ hm_ed, Result.andThen_ok, run_neq_struct, eqIn_ed]

/-- what stands at j, and is not what stands ahead of it -/
def newB (l : List Ed) (j : Nat) : Bool := decide (j = 0) || !decide (l.getD j (0, 0) = l.getD (j - 1) (0, 0))
def cpt (l : List Ed) : Nat → List Ed
  | 0 => []
  | m + 1 => if newB l m then cpt l m ++ [l.getD m (0, 0)] else cpt l m
theorem cpt_len (l : List Ed) : ∀ m, (cpt l m).length ≤ m
  | 0 => Nat.le_refl _
  | m + 1 => by
    have := cpt_len l m
    unfold cpt
    split
    · rw [List.length_append, List.length_singleton]; omega
    · omega
theorem getD_eq {l : List Ed} {m : Nat} (h : m < l.length) : l.getD m (0, 0) = l[m] := by simp [h]
theorem zeros_ed (m : Nat) : (Builtin.zeroCells (Value.agg #[Value.int .i64 0, Value.int .i64 0]).cells m).toList = List.replicate (m * 2) (Value.int .i64 0) := by
  apply List.ext_getElem?
  intro i
  rw [show (Value.agg #[Value.int .i64 0, Value.int .i64 0]).cells = #[Value.int .i64 0, Value.int .i64 0] from rfl]
  simp only [Builtin.zeroCells, Array.toList_map, List.getElem?_map, List.getElem?_replicate]
  by_cases hi : i < m * 2
  · rcases Nat.mod_two_eq_zero_or_one i with h | h <;> simp [hi, h]
  · simp [hi]
theorem st_clearE {w W : World} {K : Value → World → Prop} {ty : TypeId} {cs : List Bool} {te : TypeId} {g off m c : Nat} {cur : Array Value} {h : List (Nat × Obj)} {ks : List Nat} (hU : Upd W w ks) (hO : Owns w h) (i : Nat) (hi : h[i]? = some (g, .cells cur te (0, 0))) (hfit : off + m * 2 ≤ cur.size) (h0 : 0 < m) (hg : g ∈ ks ∨ W.heap.size ≤ g)
    (hk : ∀ w', Upd W w' ks → Owns w' (h.set i (g, .cells (cur.toList.take off ++ List.replicate (m * 2) (Value.int .i64 0) ++ cur.toList.drop (off + m * 2)).toArray te (0, 0))) → K (.tuple #[]) w') :
    (std Tryz.prog).step (sBuiltin .clear #[39] ty cs [.slice (some ⟨g, off, none⟩) m c]) w K := by
  obtain ⟨m, rfl⟩ : ∃ m', m = m' + 1 := ⟨m - 1, by omega⟩
  have hb := hO.at_ i hi
  have hst := run_storeCells_at Tryz.prog g off te (List.replicate ((m + 1) * 2) (Value.int .i64 0)) 0 cur w hb (by simpa using hfit) (fun v hv => by rw [List.eq_of_mem_replicate hv]; rfl)
  have h1 : (Builtin.clear_ #[39] ty #[.slice (some ⟨g, off, none⟩) (m + 1) c]).run Tryz.prog w = .ok (.tuple #[]) (w.setRow g (cur.toList.take off ++ List.replicate ((m + 1) * 2) (Value.int .i64 0) ++ cur.toList.drop (off + (m + 1) * 2)).toArray) := by
    simp only [Builtin.clear_, List.getElem?_toArray, List.getElem?_cons_zero]
    rw [Sem.run_bind, run_underlying' u39]
    simp only [Result.andThen_ok, Sem.run_bind, run_zero ze78]
    rw [zeros_ed, hst]
    simp
  have hrun : (sBuiltin .clear #[39] ty cs [.slice (some ⟨g, off, none⟩) (m + 1) c]).run Tryz.prog w = .ok (.value (.tuple #[])) (w.setRow g (cur.toList.take off ++ List.replicate ((m + 1) * 2) (Value.int .i64 0) ++ cur.toList.drop (off + (m + 1) * 2)).toArray) := by
    show (do pure (.value (← Builtin.clear_ #[39] ty #[.slice (some ⟨g, off, none⟩) (m + 1) c])) : Sem Next).run Tryz.prog w = _
    rw [Sem.run_bind, h1]; rfl
  rw [step_run hrun]
  exact hk _ (hU.then_ (Upd.setRow _ _ _) fun y hy => by simp at hy; subst hy; exact hg) (hO.setRow i hi _)
/-- an edge of a block -/
theorem ed_load {w : World} {g j : Nat} {cs : Array Value} {te : TypeId} {fr : Nat × Nat} {e : Ed} (h : w.heap[g]? = some (.cells cs te fr)) (h0 : cs[j * 2]? = some (.int .i64 e.1)) (h1 : cs[j * 2 + 1]? = some (.int .i64 e.2)) : (loadVar 78 ⟨g, j * 2, none⟩).run Tryz.prog w = .ok (.agg (edV e).toArray) w :=
  run_loadVarN (cs := edV e) ag78 (by rw [sz78]; rfl) fun i v hi => by
    rw [add_mk, cell_at h]
    match i with
    | 0 => simp [edV] at hi; subst hi; exact h0
    | 1 => simp [edV] at hi; subst hi; exact h1
    | i + 2 => simp [edV] at hi
section
variable {w W : World} {ks : List Nat} {F : List (Nat × Obj)}
theorem Compact_spec {hl : List (Nat × Obj)} {v : Value} {l : List Ed} (hr : RowH 78 2 v l.length (edsV l) hl) (hl9 : l.length ≤ 1000000000) (hO : Owns w (hl ++ F)) (hU : Upd W w ks) (hh : ∀ p ∈ hl, p.1 ∈ ks ∨ W.heap.size ≤ p.1) :
    CallsR Tryz.prog 37 #[v] w fun u w' => ∃ h', RowH 78 2 u (cpt l l.length).length (edsV (cpt l l.length)) h' ∧ Owns w' (h' ++ F) ∧ Upd W w' ks ∧ ∀ p ∈ h', p.1 ∈ ks ∨ W.heap.size ≤ p.1 := by
  apply api_Edge_sound
  unfold api_Edge_x api_Edge_k1
  rcases hr.2 with ⟨rfl, h0, rfl⟩ | ⟨gt, cap, cs0, rfl, rfl, hcap, hmax, hsz0, htk0⟩
  · have hl0 : l = [] := List.eq_nil_of_length_eq_zero h0
    subst hl0
    simp (disch := omega) only [PX, BX]
    refine ⟨fun _ => ⟨[], RowH.nil_ _ _, hO, hU, fun p hp => by cases hp⟩, fun h => absurd (by omega) h⟩
  have hgW := hh _ (List.mem_cons_self ..)
  have hat : ∀ {cs : Array Value} {m : Nat}, (∀ j, m ≤ j → j < l.length → cs[j * 2]? = some (.int .i64 (l.getD j (0, 0)).1) ∧ cs[j * 2 + 1]? = some (.int .i64 (l.getD j (0, 0)).2)) → ∀ {w' : World} {F' : List (Nat × Obj)}, Owns w' ((gt, .cells cs 78 (0, 0)) :: F') → ∀ j, m ≤ j → j < l.length → (loadVar 78 ⟨gt, j * 2, none⟩).run Tryz.prog w' = .ok (.agg (edV (l.getD j (0, 0))).toArray) w' :=
    fun {cs} {m} hc {w'} {F'} ho j h1 h2 => ed_load (ho.at_ 0 rfl) (hc j h1 h2).1 (hc j h1 h2).2
  have hc0 : ∀ j, 0 ≤ j → j < l.length → cs0[j * 2]? = some (.int .i64 (l.getD j (0, 0)).1) ∧ cs0[j * 2 + 1]? = some (.int .i64 (l.getD j (0, 0)).2) := fun j _ hj => by
    have hx : ∀ i u, (edsV l)[i]? = some u → cs0[i]? = some u := fun i u hu => by
      rw [← htk0, List.getElem?_take] at hu
      split at hu
      · simpa using hu
      · cases hu
    rw [getD_eq hj]
    exact ⟨hx _ _ (by have := flat_at edV 2 (fun _ => rfl) l j hj 0 (by omega); rw [Nat.add_zero] at this; exact this), hx _ _ (flat_at edV 2 (fun _ => rfl) l j hj 1 (by omega))⟩
  have hmx : l.length ≤ 1000000000 := hl9
  simp (disch := omega) only [PX, BX]
  refine ⟨fun h2 => ?_, fun h2 => ?_⟩
  · have hcp : cpt l l.length = l := by
      rcases Nat.lt_or_ge l.length 1 with h | h
      · have : l = [] := List.eq_nil_of_length_eq_zero (by omega)
        rw [this]; rfl
      · obtain ⟨e, rfl⟩ : ∃ e, l = [e] := List.length_eq_one_iff.1 (by omega)
        rfl
    rw [hcp]
    exact ⟨_, hr, hO, hU, hh⟩
  refine st_loop (fun vs w' => ∃ k : Nat, 1 ≤ k ∧ k ≤ l.length ∧ vs.getD 3 undef = .int .i64 k ∧ Owns w' ((gt, .cells cs0 78 (0, 0)) :: F) ∧ Upd W w' ks ∧ cpt l k = l.take k) (fun vs _ => l.length - (intOf (vs.getD 3 undef)).toNat) ⟨1, Nat.le_refl _, by omega, rfl, hO, hU, ?_⟩ ?_
  · obtain ⟨e, t, rfl⟩ := List.exists_cons_of_ne_nil (show l ≠ [] by intro h; subst h; simp at h2)
    rfl
  rintro dv vs w1 - ⟨k, hk1, hk, e3, hO1, hU1, hpre⟩
  simp (disch := omega) only [e3, PX, BX]
  refine ⟨fun hlt => ?_, fun hge => ?_⟩
  rotate_left
  · obtain rfl : k = l.length := by omega
    rw [List.take_length] at hpre
    rw [hpre]
    exact ⟨_, hr, hO1, hU1, hh⟩
  have hk' : k < l.length := by omega
  have hOd := hO1.ext (Upd.drew w1 [])
  have hUd := hU1.then_ (Upd.drew w1 []) (fun x hx => by cases hx)
  let S : World → Prop := fun w' => Owns w' ((gt, .cells cs0 78 (0, 0)) :: F)
  have hne : ∃ w', S w' := ⟨_, hOd⟩
  have e : ((k : Nat) : Int) - 1 = ((k - 1 : Nat) : Int) := by omega
  refine st_draw S hOd ?_
  have hneT : ∃ w', (fun _ : World => True) w' := ⟨w1, trivial⟩
  simp (disch := first | exact hne | exact hneT | assumption | omega) only [SX, add_mk, Nat.zero_add]
  rw [stepS_run hne fun w' hs => run_sLoad (hat hc0 hs k (Nat.zero_le _) hk')]
  simp (disch := first | exact hne | exact hneT | assumption | omega) only [SX, add_mk, Nat.zero_add, w64, e]
  rw [stepS_run hne fun w' hs => run_sLoad (hat hc0 hs (k - 1) (Nat.zero_le _) (by omega))]
  rw [stepS_run hne fun w' hs => eq_ed _ _ _ _ _, bool_dec]
  refine ⟨fun heq => ?_, fun hneq => ?_⟩
  rotate_left
  · refine ⟨⟨k + 1, by omega, by omega, rfl, hOd, hUd, ?_⟩, ?_⟩
    · rw [List.take_succ_eq_append_getElem hk', ← getD_eq hk', ← hpre]
      conv => lhs; unfold cpt
      rw [if_pos (by unfold newB; rw [decide_eq_false hneq]; simp)]
    · simp only [List.getD_cons_succ, List.getD_cons_zero, intOf]; omega
  -- one that stands twice: the others close up
  rw [step_run (run_sliceFrom (i := ((k : Nat) : Int)) u39 sz78 (by omega) (by omega) hcap), show ((k : Nat) : Int).toNat = k by omega, if_neg (by omega)]
  simp only [Option.map_some, add_mk, Nat.zero_add]
  have hfirst : cpt l (k + 1) = l.take k := by
    rw [← hpre]
    conv => lhs; unfold cpt
    rw [if_neg (by unfold newB; rw [decide_eq_true heq]; simp; omega)]
  have hedl : ∀ {m : Nat} {cs : Array Value} {q : List Ed}, cs.toList.take (m * 2) = edsV q → q.length = m → cs.size = cap * 2 → m < cap → ∀ x : Ed, ((cs.toList.take (m * 2) ++ edV x ++ cs.toList.drop (m * 2 + 2)).toArray).toList.take ((m + 1) * 2) = edsV (q ++ [x]) := fun {m} {cs} {q} h1 h2 h3 h4 x => by
    have hlen : (cs.toList.take (m * 2)).length = m * 2 := by rw [List.length_take, Array.length_toList]; omega
    rw [List.take_append_of_le_length (by rw [List.length_append, hlen]; show (m + 1) * 2 ≤ m * 2 + 2; omega), List.take_of_length_le (by rw [List.length_append, hlen]; show m * 2 + 2 ≤ (m + 1) * 2; omega), h1]
    simp [edsV]
  refine st_loop (fun vs w' => ∃ (k2 m : Nat) (cs : Array Value), 1 ≤ k2 ∧ k2 ≤ l.length - k ∧ vs.getD 1 undef = .int .i64 k2 ∧ vs.getD 0 undef = .int .i64 m ∧ m = (cpt l (k + k2)).length ∧ m + 1 ≤ k + k2 ∧ cs.size = cap * 2 ∧ cs.toList.take (m * 2) = edsV (cpt l (k + k2)) ∧ (∀ j, k + k2 - 1 ≤ j → j < l.length → cs[j * 2]? = some (.int .i64 (l.getD j (0, 0)).1) ∧ cs[j * 2 + 1]? = some (.int .i64 (l.getD j (0, 0)).2)) ∧
      Owns w' ((gt, .cells cs 78 (0, 0)) :: F) ∧ Upd W w' ks) (fun vs _ => l.length - (intOf (vs.getD 1 undef)).toNat) ⟨1, k, cs0, Nat.le_refl _, by omega, rfl, rfl, by rw [hfirst, List.length_take]; omega, Nat.le_refl _, hsz0, ?_, fun j _ hj => hc0 j (Nat.zero_le _) hj, hOd, hUd⟩ ?_
  · rw [hfirst]
    have := congrArg (List.take (k * 2)) htk0
    rw [List.take_take, Nat.min_eq_left (by omega)] at this
    rw [this]
    conv => lhs; rw [← List.take_append_drop k l]
    unfold edsV
    rw [List.flatMap_append, List.take_append_of_le_length (by rw [flat_len edV 2 (fun _ => rfl), List.length_take]; omega), List.take_of_length_le (by rw [flat_len edV 2 (fun _ => rfl), List.length_take]; omega)]
  rintro dv2 vs2 w2 - ⟨k2, m, cs, hk21, hk2, f1, f0, hm, hmk, hcs, htk, hrest, hO2, hU2⟩
  simp (disch := omega) only [f0, f1, PX, BX]
  refine ⟨fun hlt2 => ?_, fun hge2 => ?_⟩
  · have hj : k + k2 < l.length := by omega
    have hOd2 := hO2.ext (Upd.drew w2 [])
    have hUd2 := hU2.then_ (Upd.drew w2 []) (fun x hx => by cases hx)
    let S2 : World → Prop := fun w' => Owns w' ((gt, .cells cs 78 (0, 0)) :: F)
    have hne2 : ∃ w', S2 w' := ⟨_, hOd2⟩
    have e2 : ((k2 : Nat) : Int) - 1 = ((k2 - 1 : Nat) : Int) := by omega
    have ea : k * 2 + k2 * 2 = (k + k2) * 2 := by omega
    have eb : k * 2 + (k2 - 1) * 2 = (k + k2 - 1) * 2 := by omega
    refine st_draw S2 hOd2 ?_
    have hneT : ∃ w', (fun _ : World => True) w' := ⟨w1, trivial⟩
    simp (disch := first | exact hne2 | exact hneT | assumption | omega) only [SX, add_mk, ea]
    rw [stepS_run hne2 fun w' hs => run_sLoad (hat hrest hs (k + k2) (by omega) hj)]
    simp (disch := first | exact hne2 | exact hneT | assumption | omega) only [SX, add_mk, w64, e2, eb]
    rw [stepS_run hne2 fun w' hs => run_sLoad (hat hrest hs (k + k2 - 1) (by omega) (by omega))]
    rw [stepS_run hne2 fun w' hs => ne_ed _ _ _ _ _, bool_var]
    have hnew : newB l (k + k2) = !decide (l.getD (k + k2) (0, 0) = l.getD (k + k2 - 1) (0, 0)) := by unfold newB; rw [decide_eq_false (by omega), Bool.false_or]
    refine ⟨fun hdf => ?_, fun hsm => ?_⟩
    · have hcp : cpt l (k + (k2 + 1)) = cpt l (k + k2) ++ [l.getD (k + k2) (0, 0)] := by
        rw [show k + (k2 + 1) = (k + k2) + 1 by omega]
        conv => lhs; unfold cpt
        rw [if_pos (by rw [hnew]; exact hdf)]
      simp (disch := omega) only [PX, add_mk, ea]
      rw [step_run (run_sLoad (hat hrest hOd2 (k + k2) (by omega) hj))]
      simp (disch := omega) only [PX, add_mk, Nat.zero_add]
      refine st_storeN (vs := edV (l.getD (k + k2) (0, 0))) (by rw [sz78]; rfl) hUd2 hOd2 0 rfl (by rw [hcs]; show m * 2 + 2 ≤ cap * 2; omega) (fun u hu => by simp [edV] at hu; rcases hu with rfl | rfl <;> rfl) hgW ?_
      intro w3 hU3 hO3
      have hO3 : Owns w3 ((gt, .cells (cs.toList.take (m * 2) ++ edV (l.getD (k + k2) (0, 0)) ++ cs.toList.drop (m * 2 + 2)).toArray 78 (0, 0)) :: F) := hO3
      have hsz3 : ((cs.toList.take (m * 2) ++ edV (l.getD (k + k2) (0, 0)) ++ cs.toList.drop (m * 2 + 2)).toArray).size = cap * 2 := by
        simp only [List.size_toArray, List.length_append, List.length_take, List.length_drop, Array.length_toList, edV, List.length_cons, List.length_nil]; omega
      unfold api_Edge_k3
      simp (disch := omega) only [f1, PX, w64]
      refine ⟨⟨k2 + 1, m + 1, _, by omega, by omega, rfl, rfl, by rw [hcp, List.length_append, List.length_singleton]; omega, by omega, hsz3, by rw [hcp]; exact hedl htk hm.symm hcs (by omega) _, fun j hj1 hj2 => ?_, hO3, hU3⟩, ?_⟩
      · have hge : ∀ i, m * 2 + 2 ≤ i → (cs.toList.take (m * 2) ++ edV (l.getD (k + k2) (0, 0)) ++ cs.toList.drop (m * 2 + 2)).toArray[i]? = cs[i]? := fun i hi => by
          have hlen : (cs.toList.take (m * 2) ++ edV (l.getD (k + k2) (0, 0))).length = m * 2 + 2 := by
            rw [List.length_append, List.length_take, Array.length_toList]; show min (m * 2) cs.size + 2 = _; omega
          rw [List.getElem?_toArray, List.getElem?_append_right (by omega), hlen, List.getElem?_drop, show m * 2 + 2 + (i - (m * 2 + 2)) = i by omega]
          simp
        rw [hge _ (by omega), hge _ (by omega)]
        exact hrest j (by omega) hj2
      · simp only [List.getD_cons_succ, List.getD_cons_zero, intOf]; omega
    · have hcp : cpt l (k + (k2 + 1)) = cpt l (k + k2) := by
        rw [show k + (k2 + 1) = (k + k2) + 1 by omega]
        conv => lhs; unfold cpt
        rw [if_neg (by rw [hnew, hsm]; exact Bool.false_ne_true)]
      unfold api_Edge_k3
      simp (disch := omega) only [f1, PX, w64]
      refine ⟨⟨k2 + 1, m, cs, by omega, by omega, rfl, rfl, by rw [hcp]; exact hm, by omega, hcs, by rw [hcp]; exact htk, fun j hj1 hj2 => hrest j (by omega) hj2, hOd2, hUd2⟩, ?_⟩
      simp only [List.getD_cons_succ, List.getD_cons_zero, intOf]; omega
  · obtain rfl : k2 = l.length - k := by omega
    rw [show k + (l.length - k) = l.length by omega] at hm htk hmk
    unfold api_Edge_k2
    rw [step_run (run_sliceFrom (i := ((m : Nat) : Int)) u39 sz78 (by omega) (by omega) hcap), show ((m : Nat) : Int).toNat = m by omega, if_neg (by omega)]
    simp only [Option.map_some, add_mk, Nat.zero_add]
    refine st_clearE hU2 hO2 0 rfl (by rw [hcs]; omega) (by omega) hgW ?_
    intro w3 hU3 hO3
    rw [step_run (run_sliceTo (i := ((m : Nat) : Int)) u39 sz78 (by omega) (by omega)), show ((m : Nat) : Int).toNat = m by omega, if_neg (by omega)]
    refine ⟨_, ⟨by rw [edsV_len], .inr ⟨gt, cap, _, ?_, rfl, by omega, hmax, ?_, ?_⟩⟩, hO3, hU3, fun p hp => ?_⟩
    · rw [← hm]; simp [Addr.add]
    · simp [hcs]; omega
    · rw [← hm]
      simp only [List.append_assoc]
      rw [List.take_append_of_le_length (by simp [hcs]; omega), List.take_take, Nat.min_self]
      exact htk
    · rw [List.mem_singleton] at hp; subst hp; exact hgW
end
end Go.Proofs.YtakifgecgmdjcaaGreat

/- The laying of slices.SortFunc. -/
namespace Go.Proofs
open Go.Shelf
def Tryz.sortE_ren : Go.Shelf.Ren := ⟨fun | 6 => 35 | 15 => 63 | 14 => 62 | 28 => 87 | 29 => 88 | 20 => 79 | 21 => 80 | 22 => 81 | 23 => 82 | 24 => 83 | 25 => 84 | 26 => 85 | 27 => 86 | 46 => 98 | 47 => 99 | 48 => 100 | 49 => 101 | 50 => 102 | 57 => 122 | n => n, fun | 22 => 39 | 24 => 78 | 25 => 82 | 3 => 3 | 39 => 121 | 0 => 0 | 53 => 148 | 55 => 150 | 4 => 4 | 46 => 142 | 45 => 141 | 50 => 46 | 5 => 5 | 9 => 9 | 66 => 158 | 70 => 162 | 76 => 176 | 77 => 177 | n => n, fun | n => n⟩
theorem Tryz.sortE : Go.Proofs.SlLaysF0.n6 Tryz.prog Tryz.sortE_ren := {
  mixed := by kernel_rfl
  f6 := ⟨Tryz.f35.name, by decide, Tryz.func35.trans (congrArg some (by kernel_rfl))⟩
  f14 := ⟨Tryz.f62.name, by decide, Tryz.func62.trans (congrArg some (by kernel_rfl))⟩
  f15 := Tryz.func63.trans (congrArg some (by kernel_rfl))
  f20 := ⟨Tryz.f79.name, by decide, Tryz.func79.trans (congrArg some (by kernel_rfl))⟩
  f21 := ⟨Tryz.f80.name, by decide, Tryz.func80.trans (congrArg some (by kernel_rfl))⟩
  f22 := ⟨Tryz.f81.name, by decide, Tryz.func81.trans (congrArg some (by kernel_rfl))⟩
  f23 := ⟨Tryz.f82.name, by decide, Tryz.func82.trans (congrArg some (by kernel_rfl))⟩
  f24 := ⟨Tryz.f83.name, by decide, Tryz.func83.trans (congrArg some (by kernel_rfl))⟩
  f25 := ⟨Tryz.f84.name, by decide, Tryz.func84.trans (congrArg some (by kernel_rfl))⟩
  f26 := ⟨Tryz.f85.name, by decide, Tryz.func85.trans (congrArg some (by kernel_rfl))⟩
  f27 := ⟨Tryz.f86.name, by decide, Tryz.func86.trans (congrArg some (by kernel_rfl))⟩
  f28 := Tryz.func87.trans (congrArg some (by kernel_rfl))
  f29 := Tryz.func88.trans (congrArg some (by kernel_rfl))
  f46 := ⟨Tryz.f98.name, by decide, Tryz.func98.trans (congrArg some (by kernel_rfl))⟩
  f47 := Tryz.func99.trans (congrArg some (by kernel_rfl))
  f48 := Tryz.func100.trans (congrArg some (by kernel_rfl))
  f49 := ⟨Tryz.f101.name, by decide, Tryz.func101.trans (congrArg some (by kernel_rfl))⟩
  f50 := ⟨Tryz.f102.name, by decide, Tryz.func102.trans (congrArg some (by kernel_rfl))⟩
  f57 := ⟨Tryz.f122.name, by decide, Tryz.func122.trans (congrArg some (by kernel_rfl))⟩
  t0 := Tryz.underlying0
  a0 := Tryz.isAgg0
  z0 := Tryz.sizeOf0
  v0 := Tryz.zeroValue0
  t3 := Tryz.underlying3
  a3 := Tryz.isAgg3
  z3 := Tryz.sizeOf3
  v3 := Tryz.zeroValue3
  t4 := Tryz.underlying4
  a4 := Tryz.isAgg4
  z4 := Tryz.sizeOf4
  v4 := Tryz.zeroValue4
  t5 := Tryz.underlying5
  a5 := Tryz.isAgg5
  z5 := Tryz.sizeOf5
  v5 := Tryz.zeroValue5
  t9 := Tryz.underlying9
  a9 := Tryz.isAgg9
  z9 := Tryz.sizeOf9
  v9 := Tryz.zeroValue9
  t22 := Tryz.underlying39
  a22 := Tryz.isAgg39
  z22 := Tryz.sizeOf39
  v22 := Tryz.zeroValue39
  t25 := Tryz.underlying82
  a25 := Tryz.isAgg82
  z25 := Tryz.sizeOf82
  v25 := Tryz.zeroValue82
  t39 := Tryz.underlying121
  a39 := Tryz.isAgg121
  z39 := Tryz.sizeOf121
  v39 := Tryz.zeroValue121
  t45 := Tryz.underlying141
  a45 := Tryz.isAgg141
  z45 := Tryz.sizeOf141
  v45 := Tryz.zeroValue141
  t46 := Tryz.underlying142
  a46 := Tryz.isAgg142
  z46 := Tryz.sizeOf142
  v46 := Tryz.zeroValue142
  t50 := Tryz.underlying46
  a50 := Tryz.isAgg46
  z50 := Tryz.sizeOf46
  v50 := Tryz.zeroValue46
  t53 := Tryz.underlying148
  a53 := Tryz.isAgg148
  z53 := Tryz.sizeOf148
  v53 := Tryz.zeroValue148
  t55 := Tryz.underlying150
  a55 := Tryz.isAgg150
  z55 := Tryz.sizeOf150
  v55 := Tryz.zeroValue150
  t66 := Tryz.underlying158
  a66 := Tryz.isAgg158
  z66 := Tryz.sizeOf158
  v66 := Tryz.zeroValue158
  t70 := Tryz.underlying162
  a70 := Tryz.isAgg162
  z70 := Tryz.sizeOf162
  v70 := Tryz.zeroValue162
  t76 := Tryz.underlying176
  a76 := Tryz.isAgg176
  z76 := Tryz.sizeOf176
  v76 := Tryz.zeroValue176
  t77 := Tryz.underlying177
  a77 := Tryz.isAgg177
  z77 := Tryz.sizeOf177
  v77 := Tryz.zeroValue177 }
end Go.Proofs

/- Locks: edges, sorted. -/
namespace Go.Proofs.YtakifgecgmdjcaaGreat
open Go Xf Go.RowKit Go.Sort Go.Shelf Go.Lib
set_option linter.unusedVariables false
set_option linter.unusedSimpArgs false
set_option maxRecDepth 100000

def okE (e : Ed) : Prop := 0 ≤ e.1 ∧ e.1 < 9223372036854775808 ∧ 0 ≤ e.2 ∧ e.2 < 9223372036854775808
abbrev OE := { e : Ed // okE e }
instance : Inhabited OE := ⟨⟨(0, 0), by unfold okE; omega⟩⟩
def encE (x : OE) : List Value := edV x.1
def cfE (x y : OE) : Int := if x.1.1 ≠ y.1.1 then x.1.1 - y.1.1 else x.1.2 - y.1.2
def edLt (a b : Ed) : Prop := a.1 < b.1 ∨ (a.1 = b.1 ∧ a.2 < b.2)
theorem ltE (x y : OE) : ltOf cfE x y = true ↔ edLt x.1 y.1 := by
  unfold ltOf cfE edLt
  rw [decide_eq_true_iff]
  split <;> omega
theorem ltE_false (x y : OE) : ltOf cfE x y = false ↔ ¬ edLt x.1 y.1 := by
  rw [← ltE]; simp
theorem swoE : SWO (ltOf cfE) where
  irrefl x := by rw [ltE_false]; unfold edLt; omega
  trans x y z h1 h2 := by rw [ltE] at *; unfold edLt at *; omega
  ntrans x y z h1 h2 := by rw [ltE_false] at *; unfold edLt at *; omega
theorem cmp_closure (x y : OE) (W : World) : Calls Tryz.prog 36 #[.agg (encE x).toArray, .agg (encE y).toArray] W fun e w' => e = .returned (.int .i64 (cfE x y)) ∧ ∃ q os', w' = grow (W.drewN q) os' := by
  refine Calls.mono (show CallsR Tryz.prog 36 #[.agg (edV x.1).toArray, .agg (edV y.1).toArray] W fun u w' => u = .int .i64 (cfE x y) ∧ ∃ q os', w' = grow (W.drewN q) os' from ?_) fun e w' ⟨v, he, hv, hw⟩ => ⟨by rw [he, hv], hw⟩
  apply lock_Table_Edges_2_sound
  unfold lock_Table_Edges_2_x
  rw [step_run run_sBox, step_run run_sBox]
  obtain ⟨⟨a, b⟩, hx⟩ := x
  obtain ⟨⟨c, d⟩, hy⟩ := y
  unfold okE at hx hy
  simp only at hx hy
  have w2 : ∃ q os', (W.alloc (.cells (Value.agg (edV (a, b)).toArray).cells 78)).alloc (.cells (Value.agg (edV (c, d)).toArray).cells 78) = grow (W.drewN q) os' := ⟨0, _, by rw [alloc_eq_grow, alloc_eq_grow, grow_grow]; rfl⟩
  have h1 : ((W.alloc (.cells (Value.agg (edV (a, b)).toArray).cells 78)).alloc (.cells (Value.agg (edV (c, d)).toArray).cells 78)).heap[W.heap.size]? = some (.cells #[.int .i64 a, .int .i64 b] 78) := by
    rw [show ∀ (w : World) (o : Obj) (k : Nat), k < w.heap.size → (w.alloc o).heap[k]? = w.heap[k]? from fun w o k h => (Upd.alloc w o []).keep k h (by simp)]
    · exact heap_alloc_new _ _
    · simp
  have h2 : ((W.alloc (.cells (Value.agg (edV (a, b)).toArray).cells 78)).alloc (.cells (Value.agg (edV (c, d)).toArray).cells 78)).heap[(W.alloc (.cells (Value.agg (edV (a, b)).toArray).cells 78)).heap.size]? = some (.cells #[.int .i64 c, .int .i64 d] 78) := heap_alloc_new _ _
  generalize (W.alloc (.cells (Value.agg (edV (a, b)).toArray).cells 78)).alloc (.cells (Value.agg (edV (c, d)).toArray).cells 78) = w2' at w2 h1 h2
  generalize (W.alloc (.cells (Value.agg (edV (a, b)).toArray).cells 78)).heap.size = g2 at h2
  have c0 : w2'.cell? ⟨W.heap.size, 0, none⟩ = some (.int .i64 a) := (cell_at h1).trans rfl
  have c1 : w2'.cell? ⟨W.heap.size, 1, none⟩ = some (.int .i64 b) := (cell_at h1).trans rfl
  have d0 : w2'.cell? ⟨g2, 0, none⟩ = some (.int .i64 c) := (cell_at h2).trans rfl
  have d1 : w2'.cell? ⟨g2, 1, none⟩ = some (.int .i64 d) := (cell_at h2).trans rfl
  simp (disch := first | assumption | omega) only [PX, BX, LX, add_mk, Nat.reduceAdd]
  unfold cfE
  refine ⟨fun hne => ⟨?_, w2⟩, fun he => ⟨?_, w2⟩⟩
  · rw [if_pos hne, w64 (by omega) (by omega)]
  · rw [if_neg he, w64 (by omega) (by omega)]
theorem cmp_lays (blk off size : Nat) (w : World) : CmpLays Tryz.prog 36 #[] encE 2 cfE blk off size w := fun _ _ _ _ x y => cmp_closure x y _
theorem enters_cmp : ∀ args w, (callFunc 36 args).run Tryz.prog w = .ok (.enter 36 args) w := enters_of Tryz.func36 (by kernel_rfl) rfl
def cmpV : Value := .func (.func 36) #[] #[]
section
variable {w W : World} {ks : List Nat} {F : List (Nat × Obj)}
theorem flat_get (d : Array OE) (t : Nat) (h : t < d.size * 2) : (flatK encE 2 d)[t]? = (edsV (d.toList.map (·.1)))[t]? := by
  have hs : t < (flatK encE 2 d).size := by simpa using h
  have h1 : (flatK encE 2 d)[t]? = some (flatK encE 2 d)[t]! := by rw [getElem!_pos _ t hs, Array.getElem?_eq_getElem hs]
  have hq : t / 2 < (d.toList.map (·.1)).length := by simp; omega
  have h2 : (edsV (d.toList.map (·.1)))[t]? = (edV (d.toList.map (·.1))[t / 2])[t % 2]? := by
    have := flat_at edV 2 (fun _ => rfl) (d.toList.map (·.1)) (t / 2) hq (t % 2) (by omega)
    rw [show t / 2 * 2 + t % 2 = t by omega] at this
    exact this
  rw [h1, get_flatK _ _ _ _ h, h2]
  have hd : d[t / 2]! = d[t / 2]'(by simpa using hq) := getElem!_pos _ _ _
  have hm : t % 2 < 2 := by omega
  rw [hd]
  have e : (d.toList.map (·.1))[t / 2] = (d[t / 2]'(by simpa using hq)).1 := by simp
  rw [e]
  unfold encE
  generalize (d[t / 2]'(by simpa using hq)).1 = x
  match ht : t % 2, hm with
  | 0, _ => rfl
  | 1, _ => rfl
theorem Sort_spec {hl : List (Nat × Obj)} {v : Value} {l : List Ed} (hr : RowH 78 2 v l.length (edsV l) hl) (hl9 : l.length ≤ 1000000000) (hok : ∀ e ∈ l, okE e) (hO : Owns w (hl ++ F)) (hU : Upd W w ks) (hh : ∀ p ∈ hl, p.1 ∈ ks ∨ W.heap.size ≤ p.1) :
    CallsR Tryz.prog 35 #[v, cmpV] w fun u w' => ∃ (l' : List Ed) (h' : List (Nat × Obj)), l'.Perm l ∧ l'.Pairwise (fun a b => ¬ edLt b a) ∧ RowH 78 2 v l'.length (edsV l') h' ∧ Owns w' (h' ++ F) ∧ Upd W w' ks ∧ ∀ p ∈ h', p.1 ∈ ks ∨ W.heap.size ≤ p.1 := by
  rcases hr.2 with ⟨rfl, h0, rfl⟩ | ⟨gt, cap, cs0, rfl, rfl, hcap, hmax, hsz0, htk0⟩
  · have hl0 : l = [] := List.eq_nil_of_length_eq_zero h0
    subst hl0
    have hcon := AnyF.slices_SortFunc_none { Tryz.sortE with } none 0 cmpV w
    change Calls Tryz.prog 35 _ _ _ at hcon
    refine Calls.mono hcon ?_
    rintro e w' ⟨rfl, rfl⟩
    exact ⟨_, rfl, [], [], List.Perm.refl _, List.Pairwise.nil, RowH.nil_ _ _, hO, hU, fun p hp => by cases hp⟩
  obtain ⟨d, hd⟩ : ∃ d : Array OE, d.toList.map (·.1) = l := ⟨(l.attach.map fun x => (⟨x.1, hok x.1 x.2⟩ : OE)).toArray, by simp only [List.map_map, Function.comp_def]; exact List.attach_map_subtype_val l⟩
  have hdl : d.size = l.length := by rw [← hd]; simp
  have hb := hO.at_ 0 (rfl : ([(gt, Obj.cells cs0 78 (0, 0))] ++ F)[0]? = _)
  have hH : HoldsK encE 2 w gt 0 d := by
    intro j hj
    rw [size_flatK] at hj
    refine ⟨?_, frozen_at hb (.inr (Nat.zero_le _))⟩
    rw [cell_at hb, Nat.zero_add]
    have h1 : (flatK encE 2 d)[j]? = some (id (flatK encE 2 d)[j]!) := by
      have hs : j < (flatK encE 2 d).size := by simpa using hj
      rw [getElem!_pos _ j hs, Array.getElem?_eq_getElem hs]; rfl
    rw [← h1, flat_get d j hj, hd, ← htk0, List.getElem?_take, if_pos (by omega)]
    simp
  have hcon := AnyQ.slices_SortFunc Tryz.sortE 2 Tryz.isAgg78 Tryz.sizeOf78 encE (fun _ => rfl) (fun x v hv => by simp [encE, edV] at hv; rcases hv with rfl | rfl <;> rfl) cfE swoE 36 #[] gt 0 cap d w enters_cmp (cmp_lays gt 0 d.size w) hH (lt_of_some hb) (by omega)
  change Calls Tryz.prog 35 _ _ _ at hcon
  rw [hdl] at hcon
  refine Calls.mono hcon ?_
  rintro e w' ⟨rfl, d', n, os, hp, hs, rfl⟩
  have hsz' : d'.size = l.length := hp.1.trans hdl
  have hgW := hh _ (List.mem_cons_self ..)
  have hperm : (d'.toList.map (·.1)).Perm l := by
    rw [← hd]
    have := hp.2.2
    rw [← hdl, Array.extract_size, show d.size = d'.size from hp.1.symm, Array.extract_size] at this
    exact this.map _
  have hlen' : (d'.toList.map (·.1)).length = l.length := by simpa using hsz'
  -- the row, written anew
  have hheap : (sortWorldK encE 2 w gt 0 n d' os).heap[gt]? = some (.cells (putCells id 0 (flatK encE 2 d') cs0) 78 (0, 0)) := by
    have hlt := lt_of_some hb
    unfold sortWorldK grow putRowK putRow mapBlock
    show (Array.modify w.heap gt _ ++ os)[gt]? = _
    rw [Array.getElem?_append_left (by simpa using hlt), Array.getElem?_modify, if_pos rfl, hb]
    rfl
  have hother : ∀ k, k < w.heap.size → k ≠ gt → (sortWorldK encE 2 w gt 0 n d' os).heap[k]? = w.heap[k]? := fun k hk hne => by
    unfold sortWorldK grow putRowK putRow mapBlock
    show (Array.modify w.heap gt _ ++ os)[k]? = _
    rw [Array.getElem?_append_left (by simpa using hk), Array.getElem?_modify, if_neg (Ne.symm hne)]
  have hUs : Upd w (sortWorldK encE 2 w gt 0 n d' os) [gt] := ⟨rfl, rfl, rfl, by unfold sortWorldK grow putRowK putRow mapBlock; simp [Sort.ahead], fun k hk hn => hother k hk (by simpa using hn)⟩
  have hF : Owns w F := hO.sub (List.sublist_append_right _ _)
  have hnd : ∀ p ∈ F, p.1 ≠ gt := fun p hp he => by
    have := hO.1
    rw [List.map_append, List.nodup_append] at this
    exact this.2.2 gt (by simp) p.1 (List.mem_map_of_mem hp) he.symm
  have hcsz : (putCells id 0 (flatK encE 2 d') cs0).size = cap * 2 := by unfold putCells; simp [hsz0]
  refine ⟨_, rfl, d'.toList.map (·.1), [(gt, .cells (putCells id 0 (flatK encE 2 d') cs0) 78 (0, 0))], hperm, ?_, ⟨by rw [edsV_len], .inr ⟨gt, cap, _, by rw [hlen'], rfl, by omega, hmax, hcsz, ?_⟩⟩, ⟨?_, ?_⟩, hU.then_ hUs (fun x hx => by simp at hx; subst hx; exact hgW), fun p hp => ?_⟩
  · rw [List.pairwise_iff_getElem]
    intro i j hi hj hij
    have h1 := hs i j (Nat.zero_le _) hij (by rw [← hlen']; exact hj)
    have hi' : i < d'.size := by simpa using hi
    have hj' : j < d'.size := by simpa using hj
    rw [getElem!_pos _ i hi', getElem!_pos _ j hj', ltE_false] at h1
    simpa using h1
  · apply List.ext_getElem?
    intro t
    by_cases ht : t < d'.size * 2
    · rw [List.getElem?_take, if_pos (by rw [hlen']; omega)]
      rw [← flat_get d' t ht]
      have h1 : t < cs0.size := by rw [hsz0]; have := Nat.mul_le_mul_right 2 hcap; omega
      have hs2 : t < (flatK encE 2 d').size := by simpa using ht
      rw [Array.getElem?_toList]
      unfold putCells
      rw [Array.getElem?_mapIdx, Array.getElem?_eq_getElem h1, Option.map_some, if_pos ⟨Nat.zero_le _, by omega⟩, Nat.sub_zero, getElem!_pos _ t hs2, Array.getElem?_eq_getElem hs2]
      rfl
    · rw [List.getElem?_eq_none (by rw [List.length_take]; rw [hlen']; omega), List.getElem?_eq_none (by rw [edsV_len]; rw [hlen']; omega)]
  · rw [List.map_append, List.nodup_append]
    exact ⟨by simp, hF.1, fun a ha b hb he => by
      obtain ⟨p, hp, rfl⟩ := List.mem_map.1 hb
      simp at ha
      exact hnd p hp (by rw [← he, ha])⟩
  · intro p hp
    rcases List.mem_append.1 hp with hp | hp
    · rw [List.mem_singleton] at hp; subst hp; exact hheap
    · rw [hother p.1 (hF.lt hp) (hnd p hp)]; exact hF.2 p hp
  · rw [List.mem_singleton] at hp; subst hp; exact hgW
end
end Go.Proofs.YtakifgecgmdjcaaGreat

/- Locks: Edges. -/
namespace Go.Proofs.YtakifgecgmdjcaaGreat
open Go Xf Go.RowKit
set_option linter.unusedVariables false
set_option linter.unusedSimpArgs false
set_option maxRecDepth 100000

theorem edLt_or {a b : Ed} (h : ¬ edLt b a) (hne : a ≠ b) : edLt a b := by
  unfold edLt at *
  have : ¬ (a.1 = b.1 ∧ a.2 = b.2) := fun hh => hne (Prod.ext hh.1 hh.2)
  omega
theorem edLt_trans {a b c : Ed} (h1 : edLt a b) (h2 : edLt b c) : edLt a c := by unfold edLt at *; omega
theorem edLt_irrefl (a : Ed) : ¬ edLt a a := by unfold edLt; omega
theorem cpt_ok {l : List Ed} (hp : l.Pairwise (fun a b => ¬ edLt b a)) : ∀ m, m ≤ l.length → (∀ e, e ∈ cpt l m ↔ e ∈ l.take m) ∧ (cpt l m).Pairwise edLt ∧ ∀ x ∈ cpt l m, x = l.getD (m - 1) (0, 0) ∨ edLt x (l.getD (m - 1) (0, 0))
  | 0, _ => ⟨fun e => by simp [cpt], List.Pairwise.nil, fun x h => by cases h⟩
  | m + 1, h => by
    obtain ⟨h1, h2, h3⟩ := cpt_ok hp m (by omega)
    have hm : m < l.length := by omega
    have hsucc : l.take (m + 1) = l.take m ++ [l.getD m (0, 0)] := by rw [List.take_succ_eq_append_getElem hm, getD_eq hm]
    unfold cpt
    by_cases hn : newB l m = true
    · rw [if_pos hn]
      have hlt : ∀ x ∈ cpt l m, edLt x (l.getD m (0, 0)) := fun x hx => by
        have hm0 : m ≠ 0 := fun he => by subst he; cases hx
        unfold newB at hn
        rw [decide_eq_false hm0, Bool.false_or] at hn
        have hne : l.getD m (0, 0) ≠ l.getD (m - 1) (0, 0) := by simpa using hn
        have hle : ¬ edLt (l.getD m (0, 0)) (l.getD (m - 1) (0, 0)) := by
          rw [getD_eq hm, getD_eq (show m - 1 < l.length by omega)]
          exact List.pairwise_iff_getElem.1 hp (m - 1) m (by omega) hm (by omega)
        have hstep := edLt_or hle (Ne.symm hne)
        rcases h3 x hx with rfl | h
        · exact hstep
        · exact edLt_trans h hstep
      refine ⟨fun e => by rw [List.mem_append, h1 e, hsucc, List.mem_append], ?_, fun x hx => ?_⟩
      · rw [List.pairwise_append]
        exact ⟨h2, by simp, fun a ha b hb => by rw [List.mem_singleton] at hb; subst hb; exact hlt a ha⟩
      · rw [Nat.add_sub_cancel]
        rcases List.mem_append.1 hx with hx | hx
        · exact .inr (hlt x hx)
        · rw [List.mem_singleton] at hx; exact .inl hx
    · rw [if_neg hn]
      have hn : newB l m = false := by simpa using hn
      unfold newB at hn
      rw [Bool.or_eq_false_iff] at hn
      have hm0 : m ≠ 0 := by simpa using hn.1
      have he : l.getD m (0, 0) = l.getD (m - 1) (0, 0) := by simpa using hn.2
      refine ⟨fun e => ?_, h2, fun x hx => ?_⟩
      · rw [h1 e, hsucc, List.mem_append, List.mem_singleton]
        refine ⟨.inl, fun h => h.elim id fun h => ?_⟩
        rw [h, he, getD_eq (show m - 1 < l.length by omega)]
        exact List.mem_take_iff_getElem.2 ⟨m - 1, by omega, rfl⟩
      · rw [Nat.add_sub_cancel, he]; exact h3 x hx
theorem Fine.edge {T : Tb} {B : Nat} (h : Fine T B) {e : Ed} (he : EdgeT T e) : okE e := by
  obtain ⟨p, hp, i, hi, hh⟩ := he
  have hg := h.good.nm' (mem_names h.ok.keys hp)
  have hrow : ∀ x ∈ rowsN p.2.2, 0 ≤ x ∧ x < 9223372036854775808 := fun x hx => by
    obtain ⟨w, -, -, h1, h2, -⟩ := hg.rows x hx
    exact ⟨by omega, h2.2⟩
  have h1 := hrow e.1 (List.mem_of_getElem? hi)
  have h2 : 0 ≤ e.2 ∧ e.2 < 9223372036854775808 := by
    rcases hh with ⟨q, hq, hqe, -⟩ | hq
    · obtain ⟨m, hm⟩ := key_get (l := p.2.2.held) (x := e.2) (by rw [← hqe]; exact List.mem_map_of_mem (f := (·.1)) hq)
      obtain ⟨h3, h4, -⟩ := hg.held1 e.2 m hm
      exact ⟨by omega, h4.2⟩
    · exact hrow e.2 (List.mem_of_mem_take hq)
  exact ⟨h1.1, h1.2, h2.1, h2.2⟩
def EdgesPost (W : World) (ks : List Nat) (F : List (Nat × Obj)) (L : List Ed) (T : Tb) (g : Nat) (u : Value) (w' : World) : Prop :=
  (∃ hl, RowH 78 2 u L.length (edsV L) hl ∧ TbAt W ks (hl ++ F) T g w' ∧ ∀ p ∈ hl, p.1 ∈ ks ∨ W.heap.size ≤ p.1) ∧ L.Pairwise edLt ∧ (∀ e, e ∈ L ↔ EdgeT T e) ∧ L.length ≤ 200000000
section
variable {W w w' : World} {ks : List Nat} {F : List (Nat × Obj)} {g : Nat} {T : Tb} {K : Value → World → Prop}
theorem cpt_le (l : List Ed) : (cpt l l.length).length ≤ l.length := cpt_len l _
theorem Edges_spec {B : Nat} (h : TbAt W ks F T g w) (hfine : Fine T B) (hB5 : B ≤ 500) :
    CallsR Tryz.prog 12 #[.pointer (some ⟨g, 0, none⟩)] w fun u w' => ∃ L, EdgesPost W ks F L T g u w' := by
  apply lock_Table_Edges_sound
  unfold lock_Table_Edges_x
  obtain ⟨hU, _, ⟨bn, bw, on, ow, hs, rfl, hB⟩, hO, hmine⟩ := h
  refine st_alloc (z := .slice none 0 0) ze39 hU hO ?_
  intro b w1 hU1 hO1 hb
  have hE : EdO W ks (tbL g bn bw on ow hs ++ F) [] b w1 := ⟨_, [], RowH.nil_ _ _, hO1, hU1, fun p hp => (by cases hp), hb⟩
  simp (disch := first | assumption | omega) only [PX, BX]
  rw [step_run (mk_yield _ _)]
  refine st_call (edges_spec hE hB hfine hB5) ?_
  rintro _ w2 ⟨rfl, es, hE2, hmem, hlen⟩
  obtain ⟨v, hl, hr, hO2, hU2, hm2, -⟩ := hE2
  obtain ⟨A, c, rfl⟩ := RowH.sl' hr
  refine st_load ag39 ((cell_at (hO2.at_ 0 rfl)).trans rfl) ?_
  have hP : Owns w2 (hl ++ (edB b (.slice A es.length c) :: (tbL g bn bw on ow hs ++ F))) := hO2.perm (by
    classical
    refine List.perm_iff_count.2 fun y => ?_
    simp only [List.count_cons, List.count_append]
    omega)
  refine st_call (Sort_spec hr (by omega) (fun e he => hfine.edge ((hmem e).1 he)) hP hU2 hm2) ?_
  rintro _ w3 ⟨l', h', hperm, hpair, hr3, hO3, hU3, hm3⟩
  refine st_load ag39 ((cell_at (hO3.2 (edB b (.slice A es.length c)) (by simp))).trans rfl) ?_
  have hl'len := hperm.length_eq
  refine st_call (Compact_spec hr3 (by omega) hO3 hU3 hm3) ?_
  rintro u w4 ⟨h4, hr4, hO4, hU4, hm4⟩
  obtain ⟨c1, c2, -⟩ := cpt_ok hpair l'.length (Nat.le_refl _)
  refine ⟨_, ⟨h4, hr4, ⟨hU4, tbL g bn bw on ow hs, ⟨bn, bw, on, ow, hs, rfl, hB⟩, ?_, hmine⟩, hm4⟩, c2, fun e => ?_, by have := cpt_le l'; omega⟩
  · refine (hO4.sub (List.Sublist.append_left (List.sublist_cons_self ..) _)).perm ?_
    classical
    refine List.perm_iff_count.2 fun y => ?_
    simp only [List.count_append]
    omega
  · rw [c1 e, List.take_length, hperm.mem_iff, hmem e]
end
end Go.Proofs.YtakifgecgmdjcaaGreat

/- Locks: has, At, and rows beside a table. -/
namespace Go.Proofs.YtakifgecgmdjcaaGreat
open Go Xf Go.RowKit
set_option linter.unusedVariables false
set_option linter.unusedSimpArgs false
set_option maxRecDepth 100000

section
variable {W w w' : World} {ks : List Nat} {F : List (Nat × Obj)} {g : Nat} {T : Tb} {K : Value → World → Prop}
theorem has_spec {B : Nat} (h : TbAt W ks F T g w) (hok : okT T B) (hB5 : B ≤ 500) (x : Int) (s : List UInt8) :
    CallsR Tryz.prog 19 #[.pointer (some ⟨g, 0, none⟩), .int .i64 x, strV s] w fun u w' => u = .bool (hasT T x s).isSome ∧ TbAt W ks F T g w' := by
  apply flotillalaw13_has_sound
  unfold flotillalaw13_has_x flotillalaw13_has_k1
  refine st_call (Held_spec h hok hB5 x) ?_
  rintro v w1 ⟨hl, hr, hT, hm⟩
  have hlen := heldT_len hok x
  have hmem : ∀ p, p ∈ heldT T x ↔ hasT T x p.1 = some p.2 := fun p => mem_heldT
  have hR := hT.rdHe hr (fun p hp => List.mem_append_left _ hp) (by omega)
  have hTF := hT.weak (List.sublist_append_right hl F)
  clear hr
  generalize heldT T x = l at hR hlen hmem
  obtain ⟨A, c, rfl⟩ := he_len hR
  refine st_loop (fun vs w' => ∃ i : Nat, i ≤ l.length ∧ vs.getD 1 undef = .int .i64 i ∧ w' = w1 ∧ ∀ p ∈ l.take i, p.1 ≠ s) (fun vs _ => l.length - (intOf (vs.getD 1 undef)).toNat) ⟨0, Nat.zero_le _, rfl, rfl, by simp⟩ ?_
  rintro dv vs w2 - ⟨i, hi, e1, rfl, hno⟩
  simp (disch := first | assumption | omega) only [e1, PX, BX]
  refine ⟨fun hlt => ?_, fun hge => ?_⟩
  rotate_left
  · obtain rfl : i = l.length := by omega
    rw [List.take_length] at hno
    have : (hasT T x s).isSome = false := by
      cases hh : hasT T x s with
      | none => rfl
      | some m => exact absurd rfl (hno (s, m) ((hmem (s, m)).2 hh))
    rw [this]
    exact ⟨rfl, hTF⟩
  have hi' : i < l.length := by omega
  obtain ⟨a, c', he, hc⟩ := he_at hR hi'
  injection he with q1 q2 q3
  subst q1
  have k0 := (hc w2 (Upd.refl w2 [])).1
  simp (disch := first | assumption | omega) only [PX, BX, LX, add_add', mk_inj]
  refine ⟨fun heq => ?_, fun hne => ?_⟩
  · have : hasT T x s = some l[i].2 := by rw [← heq]; exact (hmem _).1 (List.getElem_mem hi')
    rw [this]
    exact ⟨rfl, hTF⟩
  · simp (disch := omega) only [PX, w64]
    refine ⟨⟨i + 1, by omega, rfl, trivial, fun p hp => ?_⟩, ?_⟩
    · rw [List.take_succ_eq_append_getElem hi'] at hp
      rcases List.mem_append.1 hp with hp | hp
      · exact hno p hp
      · rw [List.mem_singleton] at hp; subst hp; exact hne
    · simp only [List.getD_cons_succ, List.getD_cons_zero, intOf]; omega
theorem ed_at {v : Value} {l : List Ed} {i : Nat} (hr : RdS w edV 2 v l) (hi : i < l.length) : ∃ a c, v = .slice (some a) l.length c ∧ ∀ w', Upd w w' [] → (loadVar 78 (a.add (i * 2))).run Tryz.prog w' = .ok (.agg (edV l[i]).toArray) w' := by
  obtain ⟨A, c, rfl, hm, hrd⟩ := hr
  obtain ⟨a, rfl, hx⟩ := Rd.row (f := edV) (k := 2) (fun _ => rfl) (by omega) hrd hi
  have e : ((i : Nat) : Int).toNat = i := by omega
  rw [e] at hx
  exact ⟨a, c, rfl, fun w' hU => run_loadVarN (cs := edV l[i]) ag78 (by rw [sz78]; rfl) fun j v hj => by rw [add_add']; exact hx w' hU j v hj⟩
theorem RowH.ed {v : Value} {l : List Ed} {h : List (Nat × Obj)} (hr : RowH 78 2 v l.length (edsV l) h) (hO : Owns w (h ++ F)) (hl : l.length ≤ 1000000000) : RdS w edV 2 v l := by
  obtain ⟨A, c, rfl⟩ := RowH.sl' hr
  exact ⟨A, c, rfl, Nat.le_trans hl (by decide), hr.rd hO⟩
/-- one number onto a row beside a table -/
theorem TbAt.push {v : Value} {l : List Int} {hr : List (Nat × Obj)} (h : TbAt W ks (hr ++ F) T g w) (hrow : RowH 3 1 v l.length (intsV .i64 l) hr) (hm : ∀ p ∈ hr, p.1 ∈ ks ∨ W.heap.size ≤ p.1) (hl : l.length ≤ 1000000) (x : Int)
    (hk : ∀ v' hr' w', RowH 3 1 v' (l ++ [x]).length (intsV .i64 (l ++ [x])) hr' → TbAt W ks (hr' ++ F) T g w' → (∀ p ∈ hr', p.1 ∈ ks ∨ W.heap.size ≤ p.1) → K v' w') :
    (std Tryz.prog).step (sBuildSlice 44 1 [(0, .int .i64 x)]) w fun u w => (std Tryz.prog).step (sBuiltin .append #[44, 44] 44 [false, false] [v, u]) w K := by
  obtain ⟨hU, hh, hT, hO, hmine⟩ := h
  refine st_newRow (fun w => row_int x w) hU hO ?_
  intro gr w1 hU1 hO1 hgr
  obtain ⟨inf, e1, e2, e3, e4⟩ := info_int
  have hP : Owns w1 (hr ++ ((gr, .cells #[.int .i64 x] 3 (0, 0)) :: (hh ++ F))) := hO1.perm (by
    classical
    refine List.perm_iff_count.2 fun y => ?_
    simp only [List.count_cons, List.count_append]
    omega)
  have hrd : Rd w1 1 (.slice (some ⟨gr, 0, none⟩) 1 1) 1 (intsV .i64 [x]) := ⟨_, 1, rfl, Nat.le_refl _, rfl, fun j u hu => ⟨_, rfl, cells_read (cs := #[.int .i64 x]) (hO1.at_ 0 rfl) j u hu⟩⟩
  have hmx : (1000001 : Nat) ≤ maxLen := by decide
  refine st_append u44 e1 e2 e3 e4 rfl (by omega) hrow hP hU1 hm hrd (intsV_one _ _) (by omega) (by omega) ?_
  intro v2 w2 hr2 hrow2 hO2 hU2 hm2
  have hrow2 : RowH 3 1 v2 (l ++ [x]).length (intsV .i64 (l ++ [x])) hr2 := by
    rw [List.length_append, List.length_singleton]
    have : intsV .i64 (l ++ [x]) = intsV .i64 l ++ intsV .i64 [x] := by simp [intsV]
    rw [this]; exact hrow2
  refine hk v2 hr2 w2 hrow2 ⟨hU2, hh, hT, ?_, hmine⟩ hm2
  refine (hO2.sub (List.Sublist.append_left (List.sublist_cons_self ..) _)).perm ?_
  classical
  refine List.perm_iff_count.2 fun y => ?_
  simp only [List.count_append]
  omega
end
/-- who asks behind others waits for each of them -/
theorem turns_plain {T : Tb} {B : Nat} (h : Fine T B) (new : Nat) (txn : Int) (v : Wt) (he : (askT T new txn v).2.2 = 0) (hno : hasT T txn v.name = none) {y : Int} {wy : Wt} (hy : aGet T.waits y = some wy) (hyn : wy.name = v.name) :
    (askT T new txn v).2.1 = false ∧ ∀ y wy, aGet T.waits y = some wy → wy.name = v.name → EdgeT (askT T new txn v).1 (txn, y) := by
  obtain ⟨q, h1, h2, -⟩ := h.good.wait hy
  rw [hyn] at h1
  have hh : aGet q.2.held txn = none := by unfold hasT at hno; rw [h1] at hno; exact hno
  have hc : covB q.2 txn v.mode = false := by unfold covB; rw [hh]
  have hg : getsB q.2 txn v.mode = false := by
    unfold getsB
    rw [hh]
    have : ¬ (q.2.turns.length + q.2.row.length = 0) := fun h0 => by
      have : rowsN q.2 = [] := List.eq_nil_of_length_eq_zero (by unfold rowsN; rw [List.length_append]; exact h0)
      rw [this] at h2; cases h2
    rw [decide_eq_false this]; simp
  unfold askT at he ⊢
  by_cases hok : argsOk txn v
  · rw [if_pos hok] at he ⊢
    by_cases hw : (aGet T.waits txn).isSome = true
    · rw [if_pos hw] at he; exact absurd he (by show ¬ ((10 : Int) = 0); decide)
    · rw [if_neg hw]
      have ea : askAt T q txn v = (⟨aSet T.names v.name (q.1, queueN q.2 txn), aSet T.waits txn v⟩, false) := by
        unfold askAt
        rw [if_neg (by rw [hc]; exact Bool.false_ne_true), if_neg (by rw [hg]; exact Bool.false_ne_true)]
      rw [h1, Option.getD_some]
      show (askAt T q txn v).2 = false ∧ ∀ y wy, aGet T.waits y = some wy → wy.name = v.name → EdgeT (askAt T q txn v).1 (txn, y)
      rw [ea]
      refine ⟨rfl, fun y wy hy hyn => ?_⟩
      obtain ⟨q', g1, g2, -⟩ := h.good.wait hy
      rw [hyn, h1] at g1
      injection g1 with g1
      subst g1
      have hqr : rowsN (queueN q.2 txn) = rowsN q.2 ++ [txn] := by
        unfold queueN rowsN
        rw [if_neg (by rw [hh]; exact Bool.false_ne_true)]
        simp
      refine ⟨(v.name, (q.1, queueN q.2 txn)), aGet_mem (by rw [aGet_aSet, if_pos rfl]), (rowsN q.2).length, ?_, .inr ?_⟩
      · rw [hqr]; simp
      · rw [hqr, List.take_append_of_le_length (Nat.le_refl _), List.take_length]; exact g2
  · rw [if_neg hok] at he; exact absurd he (by show ¬ ((1 : Int) = 0); decide)
end Go.Proofs.YtakifgecgmdjcaaGreat
