/- Plain laws of the looks: each frame that is not pinned is told just once. -/
import Derived.Test.YtnghnolpohahpaaS14
namespace Go.Proofs.Ytnghnolpohahpaa
open Go Xf Go.RowKit
set_option linter.unusedVariables false
set_option linter.unusedSimpArgs false
set_option maxRecDepth 100000

/-- of the last c frames that the hand went by, none is used and not pinned -/
def Clean (c : Nat) (fs : List Fr) (h : Nat) : Prop := ∀ (i : Nat) (hi : i < fs.length) (d : Nat), 1 ≤ d → d ≤ c → (i + d) % fs.length = h → ¬ (fs[i].pins = 0 ∧ fs[i].used = true)
def NoUse (fs : List Fr) : Prop := ∀ (i : Nat) (hi : i < fs.length), fs[i].page = -1 → fs[i].used = false ∧ fs[i].pins = 0
theorem NoUse.le {a b : List Fr} (h : NoUse a) (hl : LeF a b) : NoUse b := by
  intro i hi hp
  obtain ⟨x1, x2, x3⟩ := hl.2 i (by rw [← hl.1]; exact hi) hi
  obtain ⟨y1, y2⟩ := h i (by rw [← hl.1]; exact hi) (by omega)
  refine ⟨?_, by omega⟩
  cases hu : b[i].used with
  | false => rfl
  | true => rw [x3 hu] at y1; cases y1
theorem noUse_may {fs : List Fr} {hand : Int} (h : May fs hand) : NoUse fs := fun i hi hp => (h.2.2.2.2 i hi).1.2.2.2.2 hp

theorem mod_back {n a h : Nat} (hn : 0 < n) (hh : h < n) (he : (a + 1) % n = (h + 1) % n) : a % n = h := by
  rcases Nat.lt_or_ge 1 n with h1 | h1
  · have : (1 + a % n) % n = (1 + h) % n := by rw [Nat.add_mod_mod, Nat.add_comm 1 a, Nat.add_comm 1 h]; exact he
    exact mod_off h1 (Nat.mod_lt _ hn) hh this
  · have : n = 1 := by omega
    subst this
    rw [Nat.mod_one]; omega

theorem look_clean {c : Nat} {fs : List Fr} {h : Nat} (hc : Clean c fs h) (hn : NoUse fs) (hh : h < fs.length) : Clean (c + 1) (lookR fs h).2 ((h + 1) % fs.length) := by
  intro i hi d h1 hd he
  have hlen := lookR_len fs h
  rw [hlen] at he
  have hi' : i < fs.length := by rw [← hlen]; exact hi
  by_cases hih : i = h
  · subst hih
    rintro ⟨hp, hu⟩
    unfold lookR at hp hu
    simp only [List.getElem?_eq_getElem hi'] at hp hu
    by_cases h1 : fs[i].page = -1
    · simp only [if_pos h1] at hp hu
      rw [(hn i hi' h1).1] at hu; cases hu
    · simp only [if_neg h1] at hp hu
      by_cases h2 : 0 < fs[i].pins
      · simp only [if_pos h2] at hp
        omega
      · simp only [if_neg h2] at hp hu
        by_cases h3 : fs[i].used = true
        · simp [h3] at hu
        · simp only [if_neg h3] at hu
          exact h3 hu
  · rw [lookR_at hih hi' hi]
    have hd1 : d ≠ 1 := by
      rintro rfl
      have := mod_back (by omega) hh he
      rw [Nat.mod_eq_of_lt hi'] at this
      exact hih this
    refine hc i hi' (d - 1) (by omega) (by omega) ?_
    have : (i + (d - 1) + 1) % fs.length = (h + 1) % fs.length := by rw [show i + (d - 1) + 1 = i + d by omega]; exact he
    exact mod_back (by omega) hh this
theorem looks_clean : ∀ (k c : Nat) (fs : List Fr) (h j h' : Nat) (fs' : List Fr), h < fs.length → Clean c fs h → NoUse fs → looksR k fs h = some (j, fs', h') → Clean (c + 1) fs' h'
  | 0, c, fs, h, j, h', fs', hh, hc, hn, he => by cases he
  | k + 1, c, fs, h, j, h', fs', hh, hc, hn, he => by
    unfold looksR at he
    have hl := look_clean hc hn hh
    split at he
    · injection he with he
      injection he with h1 he
      injection he with h2 h3
      subst h2 h3
      exact hl
    · have hlen := lookR_len fs h
      have := looks_clean k (c + 1) _ _ j h' fs' (by rw [hlen]; exact Nat.mod_lt _ (by omega)) hl (hn.le lookR_le) he
      intro i hi d h1 hd he
      exact this i hi d h1 (by omega) he
theorem next_clean {c : Nat} {fs fs' : List Fr} {hand j h' : Nat} (hc : Clean c fs hand) (h : nextR fs (hand : Nat) = .inr (j, fs', h')) : Clean (c + 1) fs' h' := by
  have hm := (next_some h).1
  unfold nextR at h
  rw [if_pos hm] at h
  have hn := noUse_may hm
  obtain ⟨m1, m2, m3, m4, m5⟩ := hm
  rw [show ((hand : Nat) : Int).toNat = hand by omega] at h
  cases hl : looksR (2 * fs.length + 1) fs hand with
  | none => rw [hl] at h; cases h
  | some x =>
    rw [hl] at h
    injection h with h
    subst h
    exact looks_clean _ c fs hand j h' fs' (by omega) hc hn hl
theorem clean_all {c : Nat} {fs : List Fr} {h : Nat} (hc : Clean c fs h) (hh : h < fs.length) (hn : fs.length ≤ c) : ∀ (i : Nat) (hi : i < fs.length), fs[i].pins = 0 → fs[i].used = false := by
  intro i hi hp
  obtain ⟨d, hd, he⟩ := dist_to hi hh
  have key : ¬ (fs[i].pins = 0 ∧ fs[i].used = true) := by
    rcases Nat.eq_zero_or_pos d with rfl | h0
    · refine hc i hi fs.length (by omega) hn ?_
      rw [Nat.add_mod_right, Nat.mod_eq_of_lt hi, he, Nat.add_zero, Nat.mod_eq_of_lt hi]
    · exact hc i hi d h0 (by omega) he.symm
  cases hu : fs[i].used with
  | false => rfl
  | true => exact absurd ⟨hp, hu⟩ key

/-- is the frame there, and not pinned? -/
def lo (fs : List Fr) (i : Nat) : Bool := (fs.getD i ⟨0, false, 1⟩).pins == 0
theorem lo_at {fs : List Fr} {i : Nat} (hi : i < fs.length) : lo fs i = (fs[i].pins == 0) := by
  unfold lo; rw [List.getD_eq_getElem?_getD, List.getElem?_eq_getElem hi]; rfl
def offs (fs : List Fr) (h0 p : Nat) : List Nat := (List.range p).filter fun d => lo fs ((h0 + d) % fs.length)
def toldL (fs : List Fr) (h0 p : Nat) : List Nat := (offs fs h0 p).map fun d => (h0 + d) % fs.length

theorem offs_skip (fs : List Fr) (h0 p : Nat) : ∀ e, (∀ d, d < e → lo fs ((h0 + (p + d)) % fs.length) = false) → offs fs h0 (p + e) = offs fs h0 p
  | 0, _ => rfl
  | e + 1, h => by
    rw [← offs_skip fs h0 p e fun d hd => h d (by omega)]
    show offs fs h0 (p + e + 1) = _
    unfold offs
    rw [List.range_succ, List.filter_append]
    simp [h e (by omega)]
theorem offs_take (fs : List Fr) (h0 p : Nat) (h : lo fs ((h0 + p) % fs.length) = true) : offs fs h0 (p + 1) = offs fs h0 p ++ [p] := by
  unfold offs
  rw [List.range_succ, List.filter_append]
  simp [h]
theorem rot (fs : List Fr) (h0 : Nat) (hh : h0 < fs.length) : (List.range fs.length).map (fun d => fs.getD ((h0 + d) % fs.length) ⟨0, false, 1⟩) = fs.drop h0 ++ fs.take h0 := by
  apply List.ext_getElem?
  intro i
  by_cases hi : i < fs.length
  · rw [List.getElem?_map, List.getElem?_range hi, Option.map_some]
    have hl : (h0 + i) % fs.length < fs.length := Nat.mod_lt _ (by omega)
    rw [List.getD_eq_getElem?_getD, List.getElem?_eq_getElem hl, Option.getD_some, ← List.getElem?_eq_getElem hl]
    by_cases h1 : i < fs.length - h0
    · rw [List.getElem?_append_left (by simpa using h1), List.getElem?_drop, Nat.mod_eq_of_lt (by omega)]
    · rw [List.getElem?_append_right (by simp; omega), List.length_drop, List.getElem?_take, if_pos (by omega), Nat.mod_eq_sub_mod (by omega), Nat.mod_eq_of_lt (by omega)]
      congr 1; omega
  · rw [List.getElem?_eq_none (by simpa using hi), List.getElem?_eq_none (by simp; omega)]
theorem offs_all (fs : List Fr) (h0 : Nat) (hh : h0 < fs.length) : (offs fs h0 fs.length).length = looseN fs := by
  have h1 := rot fs h0 hh
  have h2 := congrArg (List.countP fun f : Fr => f.pins == 0) h1
  rw [List.countP_map, List.countP_append, Nat.add_comm, ← List.countP_append, List.take_append_drop] at h2
  unfold looseN
  rw [← h2, List.countP_eq_length_filter]
  rfl

theorem first_of (P : Nat → Bool) : ∀ m, (∃ d, d < m ∧ P d = true) → ∃ e, e < m ∧ P e = true ∧ ∀ d, d < e → P d = false
  | 0, h => by obtain ⟨d, h, _⟩ := h; omega
  | m + 1, h => by
    by_cases hx : ∃ d, d < m ∧ P d = true
    · obtain ⟨e, h1, h2, h3⟩ := first_of P m hx
      exact ⟨e, by omega, h2, h3⟩
    · obtain ⟨d, h1, h2⟩ := h
      have : d = m := by
        by_cases h : d < m
        · exact absurd ⟨d, h, h2⟩ hx
        · omega
      subst this
      refine ⟨d, by omega, h2, fun d' hd' => ?_⟩
      cases hp : P d' with
      | false => rfl
      | true => exact absurd ⟨d', hd', hp⟩ hx

/-- where all that are not pinned are not used: the next one is told, and nothing changes -/
theorem looks_next (fs : List Fr) (hn : NoUse fs) (hc : ∀ (i : Nat) (hi : i < fs.length), fs[i].pins = 0 → fs[i].used = false) (hp : ∀ (i : Nat) (hi : i < fs.length), 0 ≤ fs[i].pins) :
    ∀ (e k h : Nat), h < fs.length → (∀ d, d < e → lo fs ((h + d) % fs.length) = false) → lo fs ((h + e) % fs.length) = true → e < k → looksR k fs h = some ((h + e) % fs.length, fs, ((h + e) % fs.length + 1) % fs.length)
  | e, 0, h, hh, h1, h2, hk => by omega
  | 0, k + 1, h, hh, h1, h2, hk => by
    have hm0 : (h + 0) % fs.length = h := by rw [Nat.add_zero, Nat.mod_eq_of_lt hh]
    rw [hm0] at h2 ⊢
    rw [lo_at hh] at h2
    have h2 : fs[h].pins = 0 := by simpa using h2
    have hl : lookR fs h = (true, fs) := by
      unfold lookR
      rw [List.getElem?_eq_getElem hh]
      dsimp only
      split
      · rfl
      · rw [if_neg (by omega), hc h hh h2]; rfl
    unfold looksR
    rw [hl]
    rfl
  | e + 1, k + 1, h, hh, h1, h2, hk => by
    have h0 := h1 0 (by omega)
    rw [Nat.add_zero, Nat.mod_eq_of_lt hh, lo_at hh] at h0
    have h0 : fs[h].pins ≠ 0 := by simpa using h0
    have hl : lookR fs h = (false, fs) := by
      unfold lookR
      rw [List.getElem?_eq_getElem hh]
      dsimp only
      rw [if_neg (fun hc => h0 (hn h hh hc).2), if_pos (by have := hp h hh; omega)]
    unfold looksR
    rw [hl]
    simp only [Bool.false_eq_true, if_false]
    have := looks_next fs hn hc hp e k ((h + 1) % fs.length) (Nat.mod_lt _ (by omega)) (fun d hd => by rw [mod_next]; exact h1 (d + 1) (by omega)) (by rw [mod_next]; exact h2) (by omega)
    rw [mod_next] at this
    exact this

theorem next_told {fs : List Fr} {h0 p : Nat} (hm : May fs ((h0 + p) % fs.length : Nat)) (hh : h0 < fs.length) (hpn : p ≤ fs.length) (hc : ∀ (i : Nat) (hi : i < fs.length), fs[i].pins = 0 → fs[i].used = false) (ht : (toldL fs h0 p).length < looseN fs) :
    ∃ d, p ≤ d ∧ d < fs.length ∧ nextR fs ((h0 + p) % fs.length : Nat) = .inr ((h0 + d) % fs.length, fs, (h0 + (d + 1)) % fs.length) ∧ toldL fs h0 (d + 1) = toldL fs h0 p ++ [(h0 + d) % fs.length] ∧ (h0 + d) % fs.length ∉ toldL fs h0 p := by
  have hl : (offs fs h0 p).length < looseN fs := by unfold toldL at ht; simpa using ht
  have hex : ∃ d, d < fs.length - p ∧ lo fs ((h0 + (p + d)) % fs.length) = true := by
    by_cases hx : ∃ d, d < fs.length - p ∧ lo fs ((h0 + (p + d)) % fs.length) = true
    · exact hx
    · exfalso
      have := offs_skip fs h0 p (fs.length - p) fun d hd => by
        cases hp : lo fs ((h0 + (p + d)) % fs.length) with
        | false => rfl
        | true => exact absurd ⟨d, hd, hp⟩ hx
      rw [show p + (fs.length - p) = fs.length by omega] at this
      have h2 := offs_all fs h0 hh
      rw [this] at h2
      omega
  obtain ⟨e, he1, he2, he3⟩ := first_of (fun d => lo fs ((h0 + (p + d)) % fs.length)) _ hex
  refine ⟨p + e, by omega, by omega, ?_, ?_, ?_⟩
  · unfold nextR
    rw [if_pos hm, show (((h0 + p) % fs.length : Nat) : Int).toNat = (h0 + p) % fs.length by omega]
    have hcomb : ∀ d, ((h0 + p) % fs.length + d) % fs.length = (h0 + (p + d)) % fs.length := fun d => by rw [Nat.mod_add_mod, Nat.add_assoc]
    rw [looks_next fs (noUse_may hm) hc (fun i hi => (hm.2.2.2.2 i hi).1.2.2.1) e (2 * fs.length + 1) _ (Nat.mod_lt _ (by omega)) (fun d hd => by rw [hcomb]; exact he3 d hd) (by rw [hcomb]; exact he2) (by omega), hcomb]
    rw [show (((h0 + (p + e)) % fs.length + 1) % fs.length) = (h0 + (p + e + 1)) % fs.length by rw [Nat.mod_add_mod, Nat.add_assoc]]
  · unfold toldL
    rw [offs_take fs h0 (p + e) he2, offs_skip fs h0 p e he3, List.map_append]
    rfl
  · unfold toldL
    intro hm
    obtain ⟨d, hd, he⟩ := List.mem_map.1 hm
    unfold offs at hd
    have hd := List.mem_range.1 (List.mem_filter.1 hd).1
    have := mod_off hh (by omega) (by omega) he
    omega

theorem loose_some {fs fs' : List Fr} (hl : LeF fs fs') (h : looseN fs ≠ 0) : ∃ (i : Nat) (hi : i < fs'.length), fs'[i].pins = 0 := by
  have h0 : 0 < List.countP (fun f : Fr => f.pins == 0) fs := by unfold looseN at h; omega
  obtain ⟨f, hf, hx⟩ := List.countP_pos_iff.1 h0
  obtain ⟨i, hi, rfl⟩ := List.getElem_of_mem hf
  refine ⟨i, by rw [hl.1]; exact hi, ?_⟩
  rw [(hl.2 i hi (by rw [hl.1]; exact hi)).2.1]
  simpa using hx
theorem loose_same {fs fs' : List Fr} (hl : LeF fs fs') : looseN fs' = looseN fs := by
  have : fs'.map (·.pins) = fs.map (·.pins) := by
    apply List.ext_getElem
    · simp [hl.1]
    · intro i h1 h2
      simp at h1 h2 ⊢
      exact (hl.2 i h2 h1).2.1
  have h2 := congrArg (List.countP fun x : Int => x == 0) this
  rw [List.countP_map, List.countP_map] at h2
  exact h2
end Go.Proofs.Ytnghnolpohahpaa
