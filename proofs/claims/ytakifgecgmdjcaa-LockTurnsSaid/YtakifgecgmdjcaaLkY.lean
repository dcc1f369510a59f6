/- Locks: the sorted numbers of a map. -/
import Derived.Test.YtakifgecgmdjcaaLkX
namespace Go.Proofs.Ytakifgecgmdjcaa
open Go Xf Go.RowKit Go.Maps Go.Sort Go.Shelf
open Go.WideElems (Fit rd rg rg_of rd_mk)
set_option linter.unusedVariables false
set_option linter.unusedSimpArgs false
set_option maxRecDepth 100000

theorem wf_in64 {n : Int} (h : in64 n) : (Lit.int .i64 n).wf = true := by
  simp only [Lit.wf, Bool.and_eq_true, decide_eq_true_eq]
  have e1 : IntKind.min .i64 = -9223372036854775808 := by decide
  have e2 : IntKind.max .i64 = 9223372036854775807 := by decide
  rw [e1, e2]
  unfold in64 at h; omega
section
variable {w W : World} {ν : Type} {ve : ν → Value} {b : Nat} {o : Obj} {ks : List Nat} {F : List (Nat × Obj)}
theorem sortsB (m : Nat) : AnyZI.SortsIn Try.prog Try.sortedB_ren Fence.wide m :=
  ⟨fun blk off cap ss W hH hblk hsz => callsIn_wide.2 (AnyM.slices_Sort_int Try.sortB blk off cap ss W hH hblk hsz),
   fun p cap W => callsIn_wide.2 (AnyM.slices_Sort_int_none Try.sortB p cap W)⟩
def seqI (g : Nat) : Value := .func (.func 48) #[] #[.pointer (some ⟨g, 0, none⟩)]
def sortI (l : List Int) : List Int := l.mergeSort fun x y => decide (x ≤ y)
theorem KeysI_spec (w : World) (b : Nat) : CallsR Try.prog 30 #[.map (some b)] w fun u w' => u = seqI w.heap.size ∧ w' = w.alloc (.cells #[.map (some b)] 77) :=
  Calls.mono (callsIn_wide.1 (AnyZI.keys_in Try.keysB Fence.wide 5 trivial rfl (some b) w)) fun e w' h => ⟨_, h.1, rfl, h.2⟩
theorem SortedI_spec {l : List (Int × ν)} (hb : w.heap[b]? = some o) (hm : MapO keyI ve l o) (hn : (l.map (·.1)).Nodup) (hl : l.length ≤ 1000000) (hk : ∀ p ∈ l, in64 p.1) :
    CallsR Try.prog 29 #[seqI w.heap.size] (w.alloc (.cells #[.map (some b)] 77)) fun u w' => ∃ h, RowH 3 1 u (sortI (l.map (·.1))).length (intsV .i64 (sortI (l.map (·.1)))) h ∧ Owns w' h ∧ Upd w w' [] ∧ ∀ p ∈ h, w.heap.size ≤ p.1 := by
  have hmx : (1000000 : Nat) ≤ maxLen := by decide
  obtain ⟨E, hown, hperm, hlen⟩ := ownsMap_of (kt := 3) (lit := fun k => .int .i64 k) hb hm hn (by omega) (fun p hp => by
    unfold keyOf mapKey
    simp only [u3, wf_in64 (hk p hp), if_true, and_self]) fun a b h => by simpa using h
  have hbl := hown.lt
  have hsk : (intKeys (.map E)).Perm (l.map (·.1)) := by
    have h1 : intKeys (.map E) = (E.map (·.1)).map Go.intOf := by unfold intKeys; rw [List.map_map]; rfl
    rw [h1]
    refine (hperm.map Go.intOf).trans ?_
    rw [List.map_map]
    exact .of_eq (List.map_congr_left fun p hp => rfl)
  have hsz : Maps.size (.map E) = l.length := hlen
  have hseq : SeqGives Fence.wide 2 Try.prog 48 #[.pointer (some ⟨w.heap.size, 0, none⟩)] encZ (fun ss => ss.Perm (intKeys (.map E))) (Maps.size (.map E)) (w.alloc (.cells #[.map (some b)] 77)) :=
    AnyZI.keys_gives (ρ := Try.keysB_ren) { Try.keysB with } Fence.wide _ trivial rfl (by omega) w.heap.size b l.length (.map E) _ (by simp) (by simp) (by
      obtain ⟨es, clock, hb, Ft, hs, hD⟩ := hown
      exact ⟨es, clock, (Below.heap_alloc _ _ b hbl).trans hb, Ft, hs, hD⟩)
  have cS := AnyZI.sorted_in Try.sortedB Fence.wide 5 trivial trivial trivial trivial rfl (by omega) (sortsB _) (enters_of Try.func47 (by kernel_rfl) rfl) 48 #[.pointer (some ⟨w.heap.size, 0, none⟩)] trivial (enters_of Try.func48 (by kernel_rfl) rfl) _ _ (by rw [hsz]; omega) (by rw [hsz]; omega) _ hseq
  change CallsIn _ _ Try.prog 29 _ _ _ at cS
  refine Calls.mono (callsIn_wide.1 cS) ?_
  rintro e w' ⟨v, ss, rfl, hS, hrow, hnil, hB⟩
  obtain ⟨ht, hr, hO, hge⟩ := RowH.ofOwns hrow
  have hss : ss.Perm (l.map (·.1)) := hS.trans hsk
  have he : (ss.mergeSort fun x y => decide (x ≤ y)) = sortI (l.map (·.1)) := mergeSort_of_perm_i hss
  have hlen2 : (sortI (l.map (·.1))).length = ss.length := by rw [← he, List.length_mergeSort]
  refine ⟨v, rfl, ht, ?_, hO, ?_, fun p hp => ?_⟩
  · rw [hlen2, ← he]; exact hr
  · exact (Upd.alloc w _ []).trans (Upd.ofBelow hB)
  · have := hge p hp
    simp at this
    omega
theorem sortI_perm (l : List Int) : (sortI l).Perm l := List.mergeSort_perm l _
theorem sortI_lt {l : List Int} (h : l.Nodup) : (sortI l).Pairwise (· < ·) := by
  have h1 : (sortI l).Pairwise (fun a b => decide (a ≤ b) = true) := List.pairwise_mergeSort (fun a b c h1 h2 => by simp at *; omega) (fun a b => by simp; omega) l
  have h2 : (sortI l).Nodup := (sortI_perm l).nodup_iff.2 h
  exact (List.pairwise_and_iff.2 ⟨h1, h2⟩).imp fun ⟨h3, h4⟩ => by simp at h3; omega
end
end Go.Proofs.Ytakifgecgmdjcaa
