/- Locks: the sorted keys of a map. -/
import Derived.Test.YtakifgecgmdjcaaLkC
import Derived.Test.YtakifgecgmdjcaaSy
namespace Go.Proofs.Ytakifgecgmdjcaa
open Go Xf Go.RowKit Go.Maps Go.Sort Go.Shelf
open Go.WideElems (Fit rd rg rg_of rd_mk)
set_option linter.unusedVariables false
set_option linter.unusedSimpArgs false
set_option maxRecDepth 100000

abbrev strV (l : List UInt8) : Value := .string ⟨l.toArray⟩
theorem strV_ok : KeyOk Try.prog 9 strV := KeyOk.str u9
theorem Upd.ofBelow {w w' : World} (h : Below w.heap.size w w') : Upd w w' [] := ⟨h.os, h.tape, h.output, h.size, fun b hb _ => h.block b hb⟩
abbrev rdNil : Value → Option (DataW Unit × List MemPlace) := fun _ => some (.nil, [])
theorem ownsMap_of {κ ν : Type} [DecidableEq κ] {ke : κ → Value} {ve : ν → Value} {kt : TypeId} {lit : κ → Lit} {w : World} {b : Nat} {o : Obj} {l : List (κ × ν)} (hb : w.heap[b]? = some o) (hm : MapO ke ve l o) (hn : (l.map (·.1)).Nodup) (hl : l.length ≤ maxLen)
    (hk : ∀ p ∈ l, keyOf Try.prog kt (ke p.1) = some (lit p.1)) (hinj : ∀ a b, ke a = ke b → a = b) :
    ∃ E : List (Lit × DataW Unit), w.ownsMap Try.prog kt rdNil b l.length (.map E) ∧ (E.map (·.1)).Perm (l.map fun p => lit p.1) ∧ E.length = l.length := by
  obtain ⟨es, clock, rfl, hes, hbn, hc⟩ := hm
  have hlen : es.toList.length = l.length := by have := congrArg List.length hes; simpa using this
  have hkeys : es.toList.map (·.key) = l.map fun p => ke p.1 := by
    have := congrArg (List.map (·.1)) hes
    simpa [List.map_map, Function.comp_def] using this
  have hrd : ∀ x ∈ es.toList, ∃ p ∈ l, x.key = ke p.1 := fun x hx => by
    have : x.key ∈ es.toList.map (·.key) := List.mem_map_of_mem hx
    rw [hkeys] at this
    obtain ⟨p, hp, he⟩ := List.mem_map.1 this
    exact ⟨p, hp, he.symm⟩
  have hF : Fit Try.prog kt rdNil es clock := by
    refine ⟨by rw [Array.length_toList] at hlen; omega, ⟨hc, hbn, ?_⟩, fun x hx => ?_⟩
    · rw [hkeys, show (l.map fun p => ke p.1) = (l.map (·.1)).map ke by rw [List.map_map]; rfl]
      exact List.pairwise_map.2 (hn.imp fun {a b} hne h => hne (hinj _ _ h))
    · obtain ⟨p, hp, he⟩ := hrd x hx
      exact ⟨(lit p.1, .nil), by unfold Go.WideElems.rd; rw [he, hk p hp]; rfl⟩
  refine ⟨(es.toList.map (rg Try.prog kt rdNil)).foldr DataW.insert [], ⟨es, clock, hb, hF, by rw [← hlen]; simp, rfl⟩, ?_, ?_⟩
  · refine ((Go.WideShapes.sorted_perm _).map _).trans ?_
    rw [List.map_map]
    have : es.toList.map ((·.1) ∘ rg Try.prog kt rdNil) = l.map fun p => lit p.1 := by
      have h1 : es.toList.map ((·.1) ∘ rg Try.prog kt rdNil) = (es.toList.map (·.key)).map fun v => (keyOf Try.prog kt v).getD (.bool false) := by
        rw [List.map_map]
        refine List.map_congr_left fun x hx => ?_
        obtain ⟨p, hp, he⟩ := hrd x hx
        have : Go.WideElems.rd Try.prog kt rdNil x = some (lit p.1, .nil) := by unfold Go.WideElems.rd; rw [he, hk p hp]; rfl
        simp only [Function.comp_apply, rg_of this, he, hk p hp, Option.getD_some]
      rw [h1, hkeys, List.map_map]
      refine List.map_congr_left fun p hp => ?_
      simp only [Function.comp_apply, hk p hp, Option.getD_some]
    rw [this]
  · rw [(Go.WideShapes.sorted_perm _).length_eq, List.length_map, hlen]
theorem RowH.ofOwns {w : World} {B : Nat} {e : TypeId} {sz : Nat} {v : Value} {n : Nat} {xs : List Value} (h : w.ownsRow B e sz v n xs) : ∃ ht, RowH e sz v n xs ht ∧ Owns w ht ∧ ∀ p ∈ ht, B ≤ p.1 := by
  obtain ⟨h1, h2 | ⟨g, cap, cur, hv, hB, hg, hn, hcm, hcs, htk⟩⟩ := h
  · exact ⟨[], ⟨h1, .inl ⟨h2.1, h2.2, rfl⟩⟩, Owns.nil _, fun p hp => by cases hp⟩
  · refine ⟨[(g, .cells cur e (0, 0))], ⟨h1, .inr ⟨g, cap, cur, hv, rfl, hn, hcm, hcs, htk⟩⟩, ⟨by simp, fun p hp => ?_⟩, fun p hp => ?_⟩
    · rw [List.mem_singleton] at hp; subst hp; exact hg
    · rw [List.mem_singleton] at hp; subst hp; exact hB
theorem Owns.add {w w' : World} {h F : List (Nat × Obj)} (hF : Owns w F) (hU : Upd w w' []) (hh : Owns w' h) (hn : ∀ p ∈ h, w.heap.size ≤ p.1) : Owns w' (h ++ F) := by
  refine ⟨?_, fun p hp => ?_⟩
  · rw [List.map_append, List.nodup_append]
    refine ⟨hh.1, hF.1, fun a ha b hb he => ?_⟩
    obtain ⟨p, hp, rfl⟩ := List.mem_map.1 ha
    obtain ⟨q, hq, rfl⟩ := List.mem_map.1 hb
    have := hn p hp
    have := hF.lt hq
    omega
  · rcases List.mem_append.1 hp with hp | hp
    · exact hh.2 p hp
    · exact (hF.ext hU).2 p hp

section
variable {w W : World} {ν : Type} {ve : ν → Value} {b : Nat} {o : Obj} {ks : List Nat} {F : List (Nat × Obj)}
theorem sortsA (m : Nat) : AnyZ.SortsIn Try.prog Try.sortedA_ren Fence.wide m :=
  ⟨fun blk off cap ss W hH hblk hsz => callsIn_wide.2 (AnyM.slices_Sort_string Try.sortA blk off cap ss W hH hblk hsz),
   fun p cap W => callsIn_wide.2 (AnyM.slices_Sort_string_none Try.sortA p cap W)⟩
def seqS (g : Nat) : Value := .func (.func 39) #[] #[.pointer (some ⟨g, 0, none⟩)]
def sortS (l : List (List UInt8)) : List (List UInt8) := l.mergeSort fun x y => decide (x ≤ y)
theorem KeysS_spec (w : World) (b : Nat) : CallsR Try.prog 22 #[.map (some b)] w fun u w' => u = seqS w.heap.size ∧ w' = w.alloc (.cells #[.map (some b)] 61) :=
  Calls.mono (callsIn_wide.1 (AnyZ.keys_in Try.keysA Fence.wide 5 trivial rfl (some b) w)) fun e w' h => ⟨_, h.1, rfl, h.2⟩
theorem SortedS_spec {l : List (List UInt8 × ν)} (hb : w.heap[b]? = some o) (hm : MapO strV ve l o) (hn : (l.map (·.1)).Nodup) (hl : l.length ≤ 1000000) (hk : ∀ p ∈ l, p.1.length ≤ maxLen) :
    CallsR Try.prog 21 #[seqS w.heap.size] (w.alloc (.cells #[.map (some b)] 61)) fun u w' => ∃ h, RowH 9 1 u (sortS (l.map (·.1))).length ((sortS (l.map (·.1))).map strV) h ∧ Owns w' h ∧ Upd w w' [] ∧ ∀ p ∈ h, w.heap.size ≤ p.1 := by
  have hmx : (1000000 : Nat) ≤ maxLen := by decide
  obtain ⟨E, hown, hperm, hlen⟩ := ownsMap_of (kt := 9) (lit := fun k => .string k) hb hm hn (by omega) (fun p hp => by
    unfold keyOf mapKey
    simp only [u9, size_mk, hk p hp, if_true]) fun a b h => by simpa using h
  have hbl := hown.lt
  have hsk : (strKeys (.map E)).Perm (l.map (·.1)) := by
    have h1 : strKeys (.map E) = (E.map (·.1)).map strOf := by unfold strKeys; rw [List.map_map]; rfl
    rw [h1]
    refine (hperm.map strOf).trans ?_
    rw [List.map_map]
    exact .of_eq (List.map_congr_left fun p hp => rfl)
  have hsz : Maps.size (.map E) = l.length := hlen
  have hseq : SeqGives Fence.wide 2 Try.prog 39 #[.pointer (some ⟨w.heap.size, 0, none⟩)] encStr (fun ss => ss.Perm (strKeys (.map E))) (Maps.size (.map E)) (w.alloc (.cells #[.map (some b)] 61)) :=
    AnyZ.keys_gives (ρ := Try.keysA_ren) { Try.keysA with } Fence.wide _ trivial rfl (by omega) w.heap.size b l.length (.map E) _ (by simp) (by simp) (by
      obtain ⟨es, clock, hb, Ft, hs, hD⟩ := hown
      exact ⟨es, clock, (Below.heap_alloc _ _ b hbl).trans hb, Ft, hs, hD⟩)
  have cS := AnyZ.sorted_in Try.sortedA Fence.wide 5 trivial trivial trivial trivial rfl (by omega) (sortsA _) (enters_of Try.func38 (by kernel_rfl) rfl) 39 #[.pointer (some ⟨w.heap.size, 0, none⟩)] trivial (enters_of Try.func39 (by kernel_rfl) rfl) _ _ (by rw [hsz]; omega) (by rw [hsz]; omega) _ hseq
  change CallsIn _ _ Try.prog 21 _ _ _ at cS
  refine Calls.mono (callsIn_wide.1 cS) ?_
  rintro e w' ⟨v, ss, rfl, hS, hrow, hnil, hB⟩
  obtain ⟨ht, hr, hO, hge⟩ := RowH.ofOwns hrow
  have hss : ss.Perm (l.map (·.1)) := hS.trans hsk
  have he : (ss.mergeSort fun x y => decide (x ≤ y)) = sortS (l.map (·.1)) := mergeSort_of_perm hss
  have hlen2 : (sortS (l.map (·.1))).length = ss.length := by rw [← he, List.length_mergeSort]
  refine ⟨v, rfl, ht, ?_, hO, ?_, fun p hp => ?_⟩
  · rw [hlen2, ← he]; exact hr
  · exact (Upd.alloc w _ []).trans (Upd.ofBelow hB)
  · have := hge p hp
    simp at this
    omega
end
end Go.Proofs.Ytakifgecgmdjcaa
