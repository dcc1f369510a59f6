/- Rings that may be stay so. -/
import Derived.Test.YtnghnolpohahpaaS9
namespace Go.Proofs.Ytnghnolpohahpaa
open Go Xf Go.RowKit
set_option linter.unusedVariables false
set_option linter.unusedSimpArgs false
set_option maxRecDepth 100000

theorem may_inj {fs : List Fr} {hand : Int} (h : May fs hand) {i k : Nat} (hi : i < fs.length) (hk : k < fs.length) (hne : i ≠ k) (hp : 0 ≤ fs[i].page) : fs[k].page ≠ fs[i].page := by
  rcases Nat.lt_or_gt_of_ne hne with h1 | h1
  · intro he
    exact (h.2.2.2.2 k hk).2 i h1 (by omega) he.symm
  · exact (h.2.2.2.2 i hi).2 k h1 hp

theorem may_set {fs : List Fr} {hand : Int} (h : May fs hand) {i : Nat} (hi : i < fs.length) {f' : Fr} (ho : okF f') (hd : 0 ≤ f'.page → ∀ (k : Nat) (hk : k < fs.length), k ≠ i → fs[k].page ≠ f'.page) : May (fs.set i f') hand := by
  have h' := h
  obtain ⟨h1, h2, h3, h4, h5⟩ := h'
  refine ⟨by simpa using h1, by simpa using h2, h3, by simpa using h4, fun j hj => ?_⟩
  have hj' : j < fs.length := by simpa using hj
  simp only [List.getElem_set]
  constructor
  · split
    · exact ho
    · exact (h5 j hj').1
  · intro k hk
    by_cases hij : i = j
    · rw [if_pos hij, if_neg (by omega)]
      intro hp
      exact hd hp k (by omega) (by omega)
    · rw [if_neg hij]
      intro hp
      by_cases hik : i = k
      · rw [if_pos hik]
        intro he
        exact hd (by omega) j hj' (by omega) he.symm
      · rw [if_neg hik]
        exact (h5 j hj').2 k hk hp

theorem atR_pos {fs : List Fr} {hand page : Int} (h : ¬ atR fs hand page < 0) : ∃ (i : Nat) (hi : i < fs.length), atR fs hand page = i ∧ fs[i].page = page ∧ 0 ≤ page ∧ May fs hand := by
  unfold atR at h ⊢
  by_cases hc : page < 0 ∨ ¬ May fs hand
  · rw [if_pos hc] at h; omega
  · rw [if_neg hc] at h ⊢
    rcases atI_cases fs page with h1 | ⟨i, hi, h1, h2, _⟩
    · rw [h1.1] at h; omega
    · exact ⟨i, hi, h1, h2, by omega, Classical.not_not.1 fun hm => hc (.inr hm)⟩
theorem atR_neg {fs : List Fr} {hand page : Int} (hm : May fs hand) (hp : 0 ≤ page) (h : atR fs hand page < 0) : atR fs hand page = -1 ∧ ∀ (j : Nat) (hj : j < fs.length), fs[j].page ≠ page := by
  unfold atR at h ⊢
  have hc : ¬ (page < 0 ∨ ¬ May fs hand) := by rintro (h | h); omega; exact h hm
  rw [if_neg hc] at h ⊢
  rcases atI_cases fs page with h1 | ⟨i, hi, h1, h2, _⟩
  · exact h1
  · rw [h1] at h; omega
theorem atR_some {fs : List Fr} {hand page : Int} (hm : May fs hand) (hp : 0 ≤ page) {i : Nat} (hi : i < fs.length) (h : fs[i].page = page) : 0 ≤ atR fs hand page := by
  by_cases hc : atR fs hand page < 0
  · exact absurd h ((atR_neg hm hp hc).2 i hi)
  · omega

theorem change_may {fs fs' : List Fr} {hand hand' page : Int} {f : Fr → Nat ⊕ Fr} (hf : ∀ x y, f x = .inr y → 0 ≤ x.page → okF x → okF y ∧ (y.page = x.page ∨ y.page = -1))
    (h : changeR fs hand page f = .inr (fs', hand')) : May fs hand ∧ May fs' hand' ∧ fs'.length = fs.length ∧ hand' = hand ∧ ∃ (i : Nat) (hi : i < fs.length) (y : Fr), fs[i].page = page ∧ 0 ≤ page ∧ atR fs hand page = i ∧ f fs[i] = .inr y ∧ fs' = fs.set i y := by
  by_cases hm : May fs hand
  · by_cases ha : atR fs hand page < 0
    · unfold changeR at h; rw [if_pos hm, if_pos ha] at h; cases h
    · obtain ⟨i, hi, h1, h2, h3, _⟩ := atR_pos ha
      rw [changeR_at hm hi h1] at h
      cases hy : f fs[i] with
      | inl e => rw [hy] at h; cases h
      | inr y =>
        rw [hy] at h
        injection h with h
        injection h with ha hb
        subst ha hb
        obtain ⟨k1, k2⟩ := hf _ _ hy (by omega) (hm.2.2.2.2 i hi).1
        refine ⟨hm, may_set hm hi k1 (fun hp k hk hne => ?_), by simp, rfl, i, hi, y, h2, h3, h1, hy, rfl⟩
        rcases k2 with k2 | k2
        · rw [k2]; exact may_inj hm hi hk (by omega) (by omega)
        · omega
  · unfold changeR at h; rw [if_neg hm] at h; cases h
theorem touch_ok : ∀ x y, touchF x = .inr y → 0 ≤ x.page → okF x → okF y ∧ (y.page = x.page ∨ y.page = -1) := by
  intro x y h hp ho
  injection h with h; subst h
  obtain ⟨o1, o2, o3, o4, o5⟩ := ho
  exact ⟨⟨o1, o2, o3, o4, fun h => by simp at h; omega⟩, .inl rfl⟩
theorem drop_ok : ∀ x y, dropF x = .inr y → 0 ≤ x.page → okF x → okF y ∧ (y.page = x.page ∨ y.page = -1) := by
  intro x y h hp ho
  unfold dropF at h
  split at h
  · cases h
  · injection h with h; subst h
    exact ⟨by unfold okF; decide, .inr rfl⟩
theorem pin_ok (n : Int) : ∀ x y, pinF n x = .inr y → 0 ≤ x.page → okF x → okF y ∧ (y.page = x.page ∨ y.page = -1) := by
  intro x y h hp ho
  unfold pinF at h
  split at h
  · cases h
  · injection h with h; subst h
    obtain ⟨o1, o2, o3, o4, o5⟩ := ho
    refine ⟨⟨o1, o2, ?_, ?_, fun h => by simp at h; omega⟩, .inl rfl⟩ <;> simp only <;> omega
theorem put_may {fs fs' : List Fr} {hand hand' page : Int} (h : putR fs hand page = .inr (fs', hand')) : May fs hand ∧ May fs' hand' ∧ fs'.length = fs.length ∧ hand' = hand ∧ ∃ (i : Nat) (hi : i < fs.length), fs[i].page = -1 ∧ 0 ≤ page ∧ fs' = fs.set i ⟨page, true, 0⟩ := by
  unfold putR at h
  split at h
  · cases h
  · rename_i hc
    split at h
    · cases h
    · rename_i ha
      split at h
      · cases h
      · rename_i hi
        injection h with h
        injection h with h1 h2
        subst h1 h2
        have hm : May fs hand := Classical.not_not.1 fun hm => hc (.inl hm)
        rcases atI_cases fs (-1) with k | ⟨i, hil, k1, k2, _⟩
        · rw [k.1] at hi; omega
        · rw [k1, show ((i : Nat) : Int).toNat = i by omega]
          refine ⟨hm, may_set hm hil ⟨by simp only; omega, by simp only; omega, by simp, by simp, fun h => by simp at h; omega⟩ (fun hp k hk hne => ?_), by simp, rfl, i, hil, k2, by omega, rfl⟩
          exact (atR_neg (page := page) hm (by omega) (by omega)).2 k hk

/-- the same but for what is used -/
def LeF (fs fs' : List Fr) : Prop := fs'.length = fs.length ∧ ∀ (k : Nat) (h1 : k < fs.length) (h2 : k < fs'.length), fs'[k].page = fs[k].page ∧ fs'[k].pins = fs[k].pins ∧ (fs'[k].used = true → fs[k].used = true)
theorem LeF.refl (fs : List Fr) : LeF fs fs := ⟨rfl, fun _ _ _ => ⟨rfl, rfl, id⟩⟩
theorem LeF.trans {a b c : List Fr} (h : LeF a b) (h' : LeF b c) : LeF a c :=
  ⟨h'.1.trans h.1, fun k h1 h2 => by
    have hb : k < b.length := by rw [h.1]; exact h1
    obtain ⟨x1, x2, x3⟩ := h.2 k h1 hb
    obtain ⟨y1, y2, y3⟩ := h'.2 k hb h2
    exact ⟨y1.trans x1, y2.trans x2, fun u => x3 (y3 u)⟩⟩
theorem LeF.may {a b : List Fr} {hand : Int} (h : LeF a b) (hm : May a hand) {hand' : Int} (h0 : 0 ≤ hand') (h1 : hand' < b.length) : May b hand' := by
  obtain ⟨m1, m2, m3, m4, m5⟩ := hm
  obtain ⟨l1, l2⟩ := h
  refine ⟨by omega, by omega, h0, h1, fun i hi => ?_⟩
  obtain ⟨x1, x2, x3⟩ := l2 i (by omega) hi
  obtain ⟨⟨o1, o2, o3, o4, o5⟩, o6⟩ := m5 i (by omega)
  refine ⟨⟨by omega, by omega, by omega, by omega, fun hp => ?_⟩, fun k hk => ?_⟩
  · obtain ⟨p1, p2⟩ := o5 (by omega)
    refine ⟨?_, by omega⟩
    cases hu : b[i].used with
    | false => rfl
    | true => rw [x3 hu] at p1; cases p1
  · intro hp
    rw [x1, (l2 k (by omega) (by omega)).1]
    exact o6 k hk (by omega)

theorem lookR_le {fs : List Fr} {h : Nat} : LeF fs (lookR fs h).2 := by
  unfold lookR
  split
  · exact LeF.refl _
  · rename_i f hf
    split
    · exact LeF.refl _
    · split
      · exact LeF.refl _
      · split
        · refine ⟨by simp, fun k h1 h2 => ?_⟩
          obtain ⟨hl, he⟩ := List.getElem?_eq_some_iff.1 hf
          simp only [List.getElem_set]
          split
          · rename_i hk; subst hk; rw [he]; exact ⟨rfl, rfl, fun h => by cases h⟩
          · exact ⟨rfl, rfl, id⟩
        · exact LeF.refl _
theorem lookR_told {fs : List Fr} {h : Nat} (hl : h < fs.length) (ht : (lookR fs h).1 = true) : (fs[h].page = -1 ∨ (¬ 0 < fs[h].pins ∧ fs[h].used = false)) ∧ (lookR fs h).2 = fs := by
  unfold lookR at ht ⊢
  rw [List.getElem?_eq_getElem hl] at ht ⊢
  dsimp only at ht ⊢
  split at ht
  · rename_i h1; rw [if_pos h1]; exact ⟨.inl h1, rfl⟩
  · rename_i h1
    rw [if_neg h1]
    split at ht
    · cases ht
    · rename_i h2
      rw [if_neg h2]
      split at ht
      · cases ht
      · rename_i h3
        rw [if_neg h3]
        exact ⟨.inr ⟨h2, by simpa using h3⟩, rfl⟩
theorem looksR_some : ∀ {k : Nat} {fs : List Fr} {h i h' : Nat} {fs' : List Fr}, h < fs.length → looksR k fs h = some (i, fs', h') → LeF fs fs' ∧ h' = (i + 1) % fs.length ∧ ∃ hi : i < fs'.length, fs'[i].page = -1 ∨ (¬ 0 < fs'[i].pins ∧ fs'[i].used = false)
  | 0, fs, h, i, h', fs', hl, he => by cases he
  | k + 1, fs, h, i, h', fs', hl, he => by
    unfold looksR at he
    split at he
    · rename_i ht
      injection he with he
      injection he with h1 he
      injection he with h2 h3
      subst h1 h2 h3
      obtain ⟨k1, k2⟩ := lookR_told hl ht
      rw [k2]
      exact ⟨LeF.refl _, rfl, hl, k1⟩
    · have hlen := lookR_len fs h
      obtain ⟨k1, k2, k3⟩ := looksR_some (by rw [hlen]; exact Nat.mod_lt _ (by omega)) he
      rw [hlen] at k2
      exact ⟨lookR_le.trans k1, k2, k3⟩

theorem mod_next {h n : Nat} (d : Nat) : ((h + 1) % n + d) % n = (h + (d + 1)) % n := by
  rw [Nat.mod_add_mod, Nat.add_assoc, Nat.add_comm 1 d]
/-- a frame that is neither pinned nor used is come to -/
theorem looks_unused : ∀ (d k : Nat) (fs : List Fr) (h i : Nat) (hi : i < fs.length), h < fs.length → i = (h + d) % fs.length → fs[i].pins = 0 → fs[i].used = false → d + 1 ≤ k → looksR k fs h ≠ none
  | d, 0, fs, h, i, hi, hh, hd, hp, hu, hk => by omega
  | d, k + 1, fs, h, i, hi, hh, hd, hp, hu, hk => by
    unfold looksR
    split
    · intro h; cases h
    · rename_i ht
      have hle := lookR_le (fs := fs) (h := h)
      have hlen := lookR_len fs h
      cases d with
      | zero =>
        have : i = h := by rw [hd, Nat.add_zero, Nat.mod_eq_of_lt hh]
        subst this
        exfalso; apply ht
        unfold lookR
        rw [List.getElem?_eq_getElem hi]
        dsimp only
        split
        · rfl
        · rw [if_neg (by omega), hu]; rfl
      | succ d =>
        have hi' : i < (lookR fs h).2.length := by rw [hlen]; exact hi
        obtain ⟨x1, x2, x3⟩ := hle.2 i hi hi'
        refine looks_unused d k _ _ i hi' (by rw [hlen]; exact Nat.mod_lt _ (by omega)) (by rw [hlen, mod_next]; exact hd) (by omega) ?_ (by omega)
        cases hu' : (lookR fs h).2[i].used with
        | false => rfl
        | true => rw [x3 hu'] at hu; cases hu
/-- a frame that is not pinned is come to, twice round -/
theorem looks_loose : ∀ (d k : Nat) (fs : List Fr) (h i : Nat) (hi : i < fs.length), h < fs.length → i = (h + d) % fs.length → fs[i].pins = 0 → d + 1 + fs.length ≤ k → looksR k fs h ≠ none
  | d, 0, fs, h, i, hi, hh, hd, hp, hk => by omega
  | d, k + 1, fs, h, i, hi, hh, hd, hp, hk => by
    unfold looksR
    split
    · intro h; cases h
    · rename_i ht
      have hle := lookR_le (fs := fs) (h := h)
      have hlen := lookR_len fs h
      have hi' : i < (lookR fs h).2.length := by rw [hlen]; exact hi
      obtain ⟨x1, x2, x3⟩ := hle.2 i hi hi'
      cases d with
      | zero =>
        have : i = h := by rw [hd, Nat.add_zero, Nat.mod_eq_of_lt hh]
        subst this
        refine looks_unused (fs.length - 1) k _ _ i hi' (by rw [hlen]; exact Nat.mod_lt _ (by omega)) ?_ (by omega) ?_ (by omega)
        · rw [hlen, mod_next, show i + (fs.length - 1 + 1) = i + fs.length by omega, Nat.add_mod_right, Nat.mod_eq_of_lt hh]
        · cases hu' : (lookR fs i).2[i].used with
          | false => rfl
          | true =>
            exfalso
            unfold lookR at ht hu'
            simp only [List.getElem?_eq_getElem hi] at ht hu'
            by_cases h1 : fs[i].page = -1
            · rw [if_pos h1] at ht; exact ht rfl
            · simp only [if_neg h1, if_neg (show ¬ 0 < fs[i].pins by omega)] at ht hu'
              by_cases h3 : fs[i].used = true
              · simp [h3] at hu'
              · rw [if_neg h3] at ht; exact ht rfl
      | succ d =>
        exact looks_loose d k _ _ i hi' (by rw [hlen]; exact Nat.mod_lt _ (by omega)) (by rw [hlen, mod_next]; exact hd) (by omega) (by rw [hlen]; omega)

theorem dist_to {n h i : Nat} (hh : h < n) (hi : i < n) : ∃ d, d < n ∧ i = (h + d) % n := by
  by_cases hc : h ≤ i
  · exact ⟨i - h, by omega, by rw [show h + (i - h) = i by omega, Nat.mod_eq_of_lt hi]⟩
  · exact ⟨i + n - h, by omega, by rw [show h + (i + n - h) = i + n by omega, Nat.add_mod_right, Nat.mod_eq_of_lt hi]⟩

theorem next_some {fs fs' : List Fr} {hand : Int} {i h' : Nat} (h : nextR fs hand = .inr (i, fs', h')) : May fs hand ∧ May fs' h' ∧ LeF fs fs' ∧ h' = (i + 1) % fs.length ∧ ∃ hi : i < fs'.length, fs'[i].page = -1 ∨ (¬ 0 < fs'[i].pins ∧ fs'[i].used = false) := by
  unfold nextR at h
  by_cases hm : May fs hand
  · rw [if_pos hm] at h
    have hm' := hm
    obtain ⟨m1, m2, m3, m4, m5⟩ := hm'
    cases hl : looksR (2 * fs.length + 1) fs hand.toNat with
    | none => rw [hl] at h; cases h
    | some x =>
      rw [hl] at h
      injection h with h
      subst h
      obtain ⟨k1, k2, k3⟩ := looksR_some (by omega) hl
      refine ⟨hm, k1.may hm (by omega) ?_, k1, k2, k3⟩
      rw [k2, k1.1]
      have := Nat.mod_lt (i + 1) (show 0 < fs.length by omega)
      omega
  · rw [if_neg hm] at h; cases h
theorem next_none {fs : List Fr} {hand : Int} {e : Nat} (hm : May fs hand) (h : nextR fs hand = .inl e) : e = 15 ∧ ∀ (i : Nat) (hi : i < fs.length), fs[i].pins ≠ 0 := by
  unfold nextR at h
  rw [if_pos hm] at h
  cases hl : looksR (2 * fs.length + 1) fs hand.toNat with
  | some x => rw [hl] at h; cases h
  | none =>
    rw [hl] at h
    injection h with h
    refine ⟨h.symm, fun i hi hp => ?_⟩
    obtain ⟨m1, m2, m3, m4, m5⟩ := hm
    obtain ⟨d, hd, he⟩ := dist_to (n := fs.length) (h := hand.toNat) (by omega) hi
    exact looks_loose d _ fs hand.toNat i hi (by omega) he hp (by omega) hl

end Go.Proofs.Ytnghnolpohahpaa
