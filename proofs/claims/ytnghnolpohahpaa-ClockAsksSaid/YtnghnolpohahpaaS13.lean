/- Plain laws of the looks: who is told. -/
import Derived.Test.YtnghnolpohahpaaS12
namespace Go.Proofs.Ytnghnolpohahpaa
open Go Xf Go.RowKit
set_option linter.unusedVariables false
set_option linter.unusedSimpArgs false
set_option maxRecDepth 100000

theorem lookR_other {fs : List Fr} {h k : Nat} (hk : k ≠ h) : (lookR fs h).2[k]? = fs[k]? := by
  unfold lookR
  split
  · rfl
  · split
    · rfl
    · split
      · rfl
      · split
        · rw [List.getElem?_set_ne (by omega)]
        · rfl
theorem lookR_at {fs : List Fr} {h k : Nat} (hk : k ≠ h) (h1 : k < fs.length) (h2 : k < (lookR fs h).2.length) : (lookR fs h).2[k] = fs[k] := by
  have := lookR_other (fs := fs) hk
  rw [List.getElem?_eq_getElem h1, List.getElem?_eq_getElem h2] at this
  injection this

theorem mod_off {n h a b : Nat} (hh : h < n) (ha : a < n) (hb : b < n) (he : (h + a) % n = (h + b) % n) : a = b := by
  rcases Nat.lt_or_ge (h + a) n with h1 | h1 <;> rcases Nat.lt_or_ge (h + b) n with h2 | h2
  · rw [Nat.mod_eq_of_lt h1, Nat.mod_eq_of_lt h2] at he; omega
  · rw [Nat.mod_eq_of_lt h1, Nat.mod_eq_sub_mod h2, Nat.mod_eq_of_lt (by omega)] at he; omega
  · rw [Nat.mod_eq_of_lt h2, Nat.mod_eq_sub_mod h1, Nat.mod_eq_of_lt (by omega)] at he; omega
  · rw [Nat.mod_eq_sub_mod h1, Nat.mod_eq_of_lt (by omega), Nat.mod_eq_sub_mod h2, Nat.mod_eq_of_lt (by omega)] at he; omega

/-- where there is a frame that is neither pinned nor used, what is told was not used -/
theorem looks_first : ∀ (d k : Nat) (fs : List Fr) (h i : Nat) (hi : i < fs.length) (j h' : Nat) (fs' : List Fr), h < fs.length → d < fs.length → i = (h + d) % fs.length → fs[i].pins = 0 → fs[i].used = false → looksR k fs h = some (j, fs', h') →
    ∃ (d' : Nat) (hj : j < fs.length), d' ≤ d ∧ j = (h + d') % fs.length ∧ (fs[j].page = -1 ∨ fs[j].used = false)
  | d, 0, fs, h, i, hi, j, h', fs', hh, hdn, hd, hp, hu, he => by cases he
  | d, k + 1, fs, h, i, hi, j, h', fs', hh, hdn, hd, hp, hu, he => by
    unfold looksR at he
    split at he
    · rename_i ht
      injection he with he
      injection he with h1 _
      subst h1
      obtain ⟨k1, _⟩ := lookR_told hh ht
      refine ⟨0, hh, by omega, by rw [Nat.add_zero, Nat.mod_eq_of_lt hh], ?_⟩
      rcases k1 with k1 | k1
      · exact .inl k1
      · exact .inr k1.2
    · rename_i ht
      have hlen := lookR_len fs h
      cases d with
      | zero =>
        have : i = h := by rw [hd, Nat.add_zero, Nat.mod_eq_of_lt hh]
        subst this
        exfalso; apply ht
        unfold lookR
        rw [List.getElem?_eq_getElem hi]
        dsimp only
        split
        · rfl
        · rw [if_neg (by omega), hu]; rfl
      | succ d =>
        have hih : i ≠ h := by
          intro hc
          have : (h + (d + 1)) % fs.length = (h + 0) % fs.length := by rw [← hd, hc, Nat.add_zero, Nat.mod_eq_of_lt hh]
          have := mod_off hh hdn (by omega) this
          omega
        have hi' : i < (lookR fs h).2.length := by rw [hlen]; exact hi
        obtain ⟨d', hj, h1, h2, h3⟩ := looks_first d k _ _ i hi' j h' fs' (by rw [hlen]; exact Nat.mod_lt _ (by omega)) (by rw [hlen]; omega) (by rw [hlen, mod_next]; exact hd) (by rw [lookR_at hih hi hi']; exact hp) (by rw [lookR_at hih hi hi']; exact hu) he
        rw [hlen, mod_next] at h2
        have hj' : j < fs.length := by rw [← hlen]; exact hj
        have hjh : j ≠ h := by
          intro hc
          have : (h + (d' + 1)) % fs.length = (h + 0) % fs.length := by rw [← h2, hc, Nat.add_zero, Nat.mod_eq_of_lt hh]
          have := mod_off hh (by omega) (by omega) this
          omega
        rw [lookR_at hjh hj' hj] at h3
        exact ⟨d' + 1, hj', by omega, h2, h3⟩

theorem next_first {fs fs' : List Fr} {hand : Int} {j h' : Nat} (h : nextR fs hand = .inr (j, fs', h')) {i : Nat} (hi : i < fs.length) (hp : fs[i].pins = 0) (hu : fs[i].used = false) : ∃ hj : j < fs.length, fs[j].page = -1 ∨ fs[j].used = false := by
  have hm := (next_some h).1
  unfold nextR at h
  rw [if_pos hm] at h
  obtain ⟨m1, m2, m3, m4, m5⟩ := hm
  cases hl : looksR (2 * fs.length + 1) fs hand.toNat with
  | none => rw [hl] at h; cases h
  | some x =>
    rw [hl] at h
    injection h with h
    subst h
    obtain ⟨d, hd, he⟩ := dist_to (n := fs.length) (h := hand.toNat) (by omega) hi
    obtain ⟨d', hj, _, _, h3⟩ := looks_first d _ fs hand.toNat i hi j h' fs' (by omega) hd he hp hu hl
    exact ⟨hj, h3⟩

/-! what is told can be dropped and put again -/

theorem touch_err {fs : List Fr} {hand page : Int} {e : Nat} (h : changeR fs hand page touchF = .inl e) : atR fs hand page < 0 := by
  by_cases hm : May fs hand
  · by_cases ha : atR fs hand page < 0
    · exact ha
    · obtain ⟨i, hi, h1, _⟩ := atR_pos ha
      rw [changeR_at hm hi h1] at h
      cases h
  · unfold atR; rw [if_pos (.inr hm)]; decide

theorem atR_eq {fs : List Fr} {hand : Int} (hm : May fs hand) {j : Nat} (hj : j < fs.length) (hp : 0 ≤ fs[j].page) : atR fs hand fs[j].page = j := by
  have h0 := atR_some hm hp hj rfl
  obtain ⟨i, hi, h1, h2, _⟩ := atR_pos (show ¬ atR fs hand fs[j].page < 0 by omega)
  by_cases hij : j = i
  · rw [h1, hij]
  · exact absurd h2 (may_inj hm hj hi hij hp)

theorem drop_told {fs : List Fr} {hand : Int} (hm : May fs hand) {j : Nat} (hj : j < fs.length) (hp : 0 ≤ fs[j].page) (hpin : ¬ 0 < fs[j].pins) : changeR fs hand fs[j].page dropF = .inr (fs.set j ⟨-1, false, 0⟩, hand) := by
  rw [changeR_at hm hj (atR_eq hm hj hp)]
  unfold dropF
  rw [if_neg hpin]
theorem drop_gone {fs : List Fr} {hand : Int} (hm : May fs hand) {j : Nat} (hj : j < fs.length) (hp : 0 ≤ fs[j].page) : atR (fs.set j ⟨-1, false, 0⟩) hand fs[j].page = -1 := by
  by_cases hc : atR (fs.set j ⟨-1, false, 0⟩) hand fs[j].page < 0
  · unfold atR at hc ⊢
    split
    · rfl
    · rename_i h
      rw [if_neg h] at hc
      rcases atI_cases (fs.set j ⟨-1, false, 0⟩) fs[j].page with h1 | ⟨i, hi, h1, _⟩
      · exact h1.1
      · omega
  · obtain ⟨i, hi, _, h2, _⟩ := atR_pos hc
    rw [List.getElem_set] at h2
    split at h2
    · simp only at h2; omega
    · rename_i hne
      exact absurd h2 (may_inj hm hj (by simpa using hi) hne hp)
theorem put_again {fs : List Fr} {hand : Int} (hm : May fs hand) {j : Nat} (hj : j < fs.length) (hp : 0 ≤ fs[j].page) : ∃ fs', putR (fs.set j ⟨-1, false, 0⟩) hand fs[j].page = .inr (fs', hand) ∧ May fs' hand ∧ 0 ≤ atR fs' hand fs[j].page := by
  have hm' : May (fs.set j ⟨-1, false, 0⟩) hand := may_set hm hj (by unfold okF; decide) (fun h => by simp at h)
  have hlt : fs[j].page < 16 := (hm.2.2.2.2 j hj).1.2.1
  have hg := drop_gone hm hj hp
  have hex : ¬ atI (fs.set j ⟨-1, false, 0⟩) (-1) < 0 := by
    rcases atI_cases (fs.set j ⟨-1, false, 0⟩) (-1) with h1 | ⟨i, hi, h1, _⟩
    · exact absurd (by rw [List.getElem_set_self]) (h1.2 j (by simpa using hj))
    · omega
  have hput : putR (fs.set j ⟨-1, false, 0⟩) hand fs[j].page = .inr ((fs.set j ⟨-1, false, 0⟩).set (atI (fs.set j ⟨-1, false, 0⟩) (-1)).toNat ⟨fs[j].page, true, 0⟩, hand) := by
    unfold putR
    rw [if_neg (by rintro (h | h | h); exact h hm'; omega; omega), if_neg (by omega), if_neg hex]
  obtain ⟨_, h2, h3, _, i, hi, _, _, h4⟩ := put_may hput
  refine ⟨_, hput, h2, ?_⟩
  refine atR_some h2 hp (i := i) (by rw [h3]; exact hi) ?_
  have : ((fs.set j ⟨-1, false, 0⟩).set (atI (fs.set j ⟨-1, false, 0⟩) (-1)).toNat ⟨fs[j].page, true, 0⟩)[i]? = some ⟨fs[j].page, true, 0⟩ := by
    rw [h4, List.getElem?_set_self hi]
  rw [List.getElem?_eq_getElem (by rw [h3]; exact hi)] at this
  injection this with this
  rw [this]

end Go.Proofs.Ytnghnolpohahpaa
