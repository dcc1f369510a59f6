/- Locks: what holds of every table, whole. -/
import Derived.Test.YtakifgecgmdjcaaLkV
namespace Go.Proofs.Ytakifgecgmdjcaa
open Go Xf Go.RowKit
set_option linter.unusedVariables false
set_option linter.unusedSimpArgs false
set_option maxRecDepth 100000

/-- a name, when the one who goes has left it, if that is still to be done -/
def virt (l : List (List UInt8)) (txn : Int) (s : List UInt8) (n : Nm) : Nm := if s ∈ l then leaveN n txn else n
structure GoodX (l : List (List UInt8)) (txn : Int) (T : Tb) : Prop where
  nm : ∀ s q, aGet T.names s = some q → GoodN T.waits s (virt l txn s q.2)
  conv : ∀ x w, aGet T.waits x = some w → ∃ q, aGet T.names w.name = some q ∧ x ∈ rowsN (virt l txn w.name q.2)
  live : ∀ s q, aGet T.names s = some q → q.2.held ≠ []
def Good (T : Tb) : Prop := GoodX [] 0 T
theorem virt_nil (txn : Int) (s : List UInt8) (n : Nm) : virt [] txn s n = n := by unfold virt; rw [if_neg (by simp)]
theorem Good.of {txn : Int} {T : Tb} (h : GoodX [] txn T) : Good T :=
  ⟨fun s q hq => by have := h.nm s q hq; rw [virt_nil] at this ⊢; exact this, fun x w hx => by have := h.conv x w hx; simp only [virt_nil] at this ⊢; exact this, h.live⟩
/-- the state ahead of pass at s: the name as it is laid may have nobody -/
structure PreX (l : List (List UInt8)) (txn : Int) (T : Tb) (s : List UInt8) : Prop where
  nm : ∀ s' q, aGet T.names s' = some q → GoodN T.waits s' (virt l txn s' q.2)
  conv : ∀ x w, aGet T.waits x = some w → ∃ q, aGet T.names w.name = some q ∧ x ∈ rowsN (virt l txn w.name q.2)
  live : ∀ s' q, s' ≠ s → aGet T.names s' = some q → q.2.held ≠ []
theorem passT_good {l : List (List UInt8)} {txn : Int} {T : Tb} {s : List UInt8} {q : Nat × Nm} {B : Nat} (h : PreX l txn T s) (hok : okT T B) (hs : s ∉ l) (hq : aGet T.names s = some q) : GoodX l txn (passT T s q).1 := by
  have hN := h.nm s q hq
  unfold virt at hN
  rw [if_neg hs] at hN
  obtain ⟨g1, g2, g3, g4, g5, g6⟩ := passN_good (q.2.turns.length + q.2.row.length) q.2 T.waits hN hok.wkeys (Nat.le_refl _)
  have other : ∀ s' n, s' ≠ s → GoodN T.waits s' n → GoodN (passN (q.2.turns.length + q.2.row.length) q.2 T.waits).2.1 s' n := fun s' n hne hn =>
    ⟨hn.held1, hn.bes, fun x hx => by obtain ⟨w, e1, e2, e3⟩ := hn.rows x hx; exact ⟨w, g4 x w e1 (by rw [e2]; exact hne), e2, e3⟩, hn.nodup, hn.turns, hn.row⟩
  unfold passT
  generalize passN (q.2.turns.length + q.2.row.length) q.2 T.waits = r at g1 g2 g3 g4 g5 g6 other
  by_cases hz : r.1.held.length = 0
  · simp only [hz, if_true]
    have hrn := g6 (List.eq_nil_of_length_eq_zero hz)
    refine ⟨fun s' q' h' => ?_, fun x w hx => ?_, fun s' q' h' => ?_⟩
    · rw [aGet_aDel hok.keys] at h'
      split at h'
      · cases h'
      · rename_i hne
        exact other s' _ hne (h.nm s' q' h')
    · obtain ⟨q', h1, h2⟩ := h.conv x w (g3 x w hx)
      have hne : w.name ≠ s := fun he => by
        rw [he] at h1 h2
        rw [hq] at h1; injection h1 with h1; subst h1
        unfold virt at h2; rw [if_neg hs] at h2
        have := g5 x w h2 hx
        rw [hrn] at this; cases this
      exact ⟨q', by rw [aGet_aDel hok.keys, if_neg hne]; exact h1, h2⟩
    · rw [aGet_aDel hok.keys] at h'
      split at h'
      · cases h'
      · rename_i hne
        exact h.live s' q' hne h'
  · simp only [hz, if_false]
    refine ⟨fun s' q' h' => ?_, fun x w hx => ?_, fun s' q' h' => ?_⟩
    · rw [aGet_aSet] at h'
      split at h'
      · rename_i he
        injection h' with h'; subst h' he
        show GoodN r.2.1 s' (virt l txn s' r.1)
        unfold virt; rw [if_neg hs]; exact g1
      · rename_i hne
        exact other s' _ hne (h.nm s' q' h')
    · obtain ⟨q', h1, h2⟩ := h.conv x w (g3 x w hx)
      by_cases he : w.name = s
      · rw [he] at h1 h2
        rw [hq] at h1; injection h1 with h1; subst h1
        unfold virt at h2; rw [if_neg hs] at h2
        refine ⟨(q.1, r.1), by rw [aGet_aSet, if_pos he], ?_⟩
        unfold virt; rw [he, if_neg hs]; exact g5 x w h2 hx
      · exact ⟨q', by rw [aGet_aSet, if_neg he]; exact h1, h2⟩
    · rw [aGet_aSet] at h'
      split at h'
      · injection h' with h'; subst h'
        intro hn; apply hz; show r.1.held.length = 0; rw [show r.1.held = [] from hn]; rfl
      · rename_i hne
        exact h.live s' q' hne h'
theorem GoodN.held_eq {ws : List (Int × Wt)} {s : List UInt8} {n : Nm} {txn : Int} (h : GoodN ws s n) (hk : Keys1 n.held) (ht : txn ∉ rowsN n) : GoodN ws s { n with held := aDel n.held txn } := by
  have ne : ∀ y, y ≠ txn → aGet (aDel n.held txn) y = aGet n.held y := fun y hy => by rw [aGet_aDel hk, if_neg hy]
  have sm : ∀ y m, aGet (aDel n.held txn) y = some m → aGet n.held y = some m := fun y m hy => by
    rw [aGet_aDel hk] at hy
    split at hy
    · cases hy
    · exact hy
  refine ⟨fun y my hy => h.held1 y my (sm y my hy), fun y z my mz hy hz hne => h.bes y z my mz (sm _ _ hy) (sm _ _ hz) hne, fun y hy => ?_, h.nodup, fun y hy => ?_, fun y hy => ?_⟩
  · obtain ⟨w, e1, e2, e3, e4, e5, e6, e7⟩ := h.rows y hy
    exact ⟨w, e1, e2, e3, e4, e5, e6, fun hm hhm => e7 hm (sm _ _ hhm)⟩
  · show (aGet (aDel n.held txn) y).isSome = true
    rw [ne y (fun he => ht (he ▸ List.mem_append_left _ hy))]; exact h.turns y hy
  · show aGet (aDel n.held txn) y = none
    rw [ne y (fun he => ht (he ▸ List.mem_append_right _ hy))]; exact h.row y hy
theorem not_mem_leave (n : Nm) (txn : Int) : txn ∉ rowsN (leaveN n txn) := by rw [rowsN_leave, mem_outN]; exact fun h => h.2 rfl
theorem goneS_good {l : List (List UInt8)} {txn : Int} {T : Tb} {s : List UInt8} {q : Nat × Nm} {B : Nat} (all : Bool) (h : GoodX (s :: l) txn T) (hok : okT T B) (hs : s ∉ l) (hq : aGet T.names s = some q) : GoodX l txn (goneS T s q txn all).1 := by
  have hN := h.nm s q hq
  unfold virt at hN
  rw [if_pos (List.mem_cons_self ..)] at hN
  have vne : ∀ s' n, s' ≠ s → virt (s :: l) txn s' n = virt l txn s' n := fun s' n hne => by
    unfold virt
    by_cases hm : s' ∈ l
    · rw [if_pos hm, if_pos (List.mem_cons_of_mem _ hm)]
    · rw [if_neg hm, if_neg (by simp [hne, hm])]
  have veq : ∀ n, virt l txn s n = n := fun n => by unfold virt; rw [if_neg hs]
  have pre : ∀ n : Nm, GoodN T.waits s n → rowsN n = rowsN (leaveN q.2 txn) → PreX l txn (putN T s (q.1, n)) s := fun n hn hr => by
    refine ⟨fun s' q' h' => ?_, fun x w hx => ?_, fun s' q' hne h' => ?_⟩
    · rw [putN, aGet_aSet] at h'
      split at h'
      · rename_i he; injection h' with h'; subst h' he
        rw [veq]; exact hn
      · rename_i hne
        rw [← vne s' _ hne]; exact h.nm s' q' h'
    · obtain ⟨q', h1, h2⟩ := h.conv x w hx
      by_cases he : w.name = s
      · rw [he] at h1 h2
        rw [hq] at h1; injection h1 with h1; subst h1
        unfold virt at h2; rw [if_pos (List.mem_cons_self ..)] at h2
        refine ⟨(q.1, n), by rw [putN, aGet_aSet, if_pos he], ?_⟩
        rw [he, veq, hr]; exact h2
      · exact ⟨q', by rw [putN, aGet_aSet, if_neg he]; exact h1, by rw [← vne _ _ he]; exact h2⟩
    · rw [putN, aGet_aSet, if_neg hne] at h'
      exact h.live s' q' h'
  have hokn := hok.nm s q hq
  unfold goneS
  split
  · exact passT_good (pre { leaveN q.2 txn with held := aDel q.2.held txn } (hN.held_eq hokn.2.2 (not_mem_leave _ _)) rfl) (hok.put hq (q := (q.1, { leaveN q.2 txn with held := aDel q.2.held txn })) (okN.del (n := leaveN q.2 txn) (hokn.leave txn) txn)) hs (get_putN _ _ _)
  · split
    · exact passT_good (pre _ hN rfl) (hok.put hq (q := (q.1, leaveN q.2 txn)) (hokn.leave txn)) hs (get_putN _ _ _)
    · obtain ⟨p1, p2, p3⟩ := pre _ hN rfl
      refine ⟨p1, p2, fun s' q' h' => ?_⟩
      by_cases he : s' = s
      · subst he
        rw [putN, aGet_aSet, if_pos rfl] at h'
        injection h' with h'; subst h'
        exact h.live s' q hq
      · exact p3 s' q' he h'
theorem goneL_good {B : Nat} (txn : Int) (all : Bool) : ∀ (l : List (List UInt8)) (T : Tb), GoodX l txn T → okT T B → l.Nodup → GoodX [] txn (goneL txn all l T).1
  | [], T, h, _, _ => h
  | s :: l, T, h, hok, hn => by
    rw [List.nodup_cons] at hn
    cases hq : aGet T.names s with
    | none =>
      have e : goneL txn all (s :: l) T = goneL txn all l T := by conv => lhs; unfold goneL; rw [hq]
      rw [e]
      refine goneL_good txn all l T ⟨fun s' q' h' => ?_, fun x w hx => ?_, h.live⟩ hok hn.2
      · have hne : s' ≠ s := fun he => by rw [he, hq] at h'; cases h'
        have := h.nm s' q' h'
        unfold virt at this ⊢
        simpa [hne] using this
      · obtain ⟨q', h1, h2⟩ := h.conv x w hx
        have hne : w.name ≠ s := fun he => by rw [he, hq] at h1; cases h1
        refine ⟨q', h1, ?_⟩
        unfold virt at h2 ⊢
        simpa [hne] using h2
    | some q =>
      rw [goneL_cons hq]
      exact goneL_good txn all l _ (goneS_good all h hok hn.1 hq) (goneS_ok txn all hok hq).1 hn.2
theorem goneT_good {T : Tb} {B : Nat} (h : Good T) (hok : okT T B) (txn : Int) (all : Bool) : Good (goneT T txn all).1 := by
  refine Good.of (goneL_good (B := B) txn all _ ⟨T.names, aDel T.waits txn⟩ ⟨fun s q hq => ?_, fun x w hx => ?_, h.live⟩ ⟨hok.keys, hok.wkeys.del, hok.len, hok.short, hok.nm⟩ ((sortS_perm _).nodup_iff.2 hok.keys))
  · have hmem : s ∈ sortS (T.names.map (·.1)) := (sortS_perm _).mem_iff.2 (aGet_key hq)
    have hN := h.nm s q hq
    rw [virt_nil] at hN
    unfold virt
    rw [if_pos hmem]
    refine ⟨hN.held1, hN.bes, fun y hy => ?_, by rw [rowsN_leave]; exact outN_nodup hN.nodup _, fun y hy => hN.turns y (mem_outN.1 hy).1, fun y hy => hN.row y (mem_outN.1 hy).1⟩
    rw [rowsN_leave, mem_outN] at hy
    obtain ⟨w, e1, e2, e3⟩ := hN.rows y hy.1
    exact ⟨w, by show aGet (aDel T.waits txn) y = some w; rw [aGet_aDel hok.wkeys, if_neg hy.2]; exact e1, e2, e3⟩
  · have hx : aGet (aDel T.waits txn) x = some w := hx
    rw [aGet_aDel hok.wkeys] at hx
    split at hx
    · cases hx
    · rename_i hne
      obtain ⟨q, h1, h2⟩ := h.conv x w hx
      rw [virt_nil] at h2
      refine ⟨q, h1, ?_⟩
      unfold virt
      rw [if_pos ((sortS_perm _).mem_iff.2 (aGet_key h1)), rowsN_leave, mem_outN]
      exact ⟨h2, hne⟩
end Go.Proofs.Ytakifgecgmdjcaa
