/- Locks: Txns. -/
import Derived.Test.YtakifgecgmdjcaaLkZ
namespace Go.Proofs.Ytakifgecgmdjcaa
open Go Xf Go.RowKit
set_option linter.unusedVariables false
set_option linter.unusedSimpArgs false
set_option maxRecDepth 100000

theorem uAll : Try.prog.underlying 77 = some (.map 3 4) := by kernel_rfl
abbrev keysOf {ν : Type} (l : List (Int × ν)) : List Int := l.map (·.1)
def uV : Unit → Value := fun _ => .bool true
def TxK (T : Tb) (x : Int) : Prop := x ∈ keysOf T.waits ∨ ∃ p ∈ T.names, x ∈ keysOf p.2.2.held
theorem TbB.mem {T : Tb} {on ow : Obj} {hs : List (Nat × Obj)} (hB : TbB T on ow hs) {p : List UInt8 × (Nat × Nm)} (hp : p ∈ T.names) : ∃ bh oh vt vr, (p.2.1, nmO bh vt vr) ∈ hs ∧ (bh, oh) ∈ hs ∧ MapO keyI keyI p.2.2.held oh := by
  obtain ⟨A, B, e⟩ := List.append_of_mem hp
  have h3 := hB.2.2
  rw [e] at h3
  obtain ⟨hn, hF, ⟨bh, oh, vt, vr, ht, hr, rfl, hmap, -, -⟩, -, hperm⟩ := NmsH.mid.1 h3
  exact ⟨bh, oh, vt, vr, hperm.mem_iff.1 (by simp), hperm.mem_iff.1 (by simp), hmap⟩
def TxnsPost (W : World) (ks : List Nat) (F : List (Nat × Obj)) (L : List Int) (T : Tb) (g : Nat) (u : Value) (w' : World) : Prop :=
  (∃ hl, RowH 3 1 u L.length (intsV .i64 L) hl ∧ TbAt W ks (hl ++ F) T g w' ∧ ∀ p ∈ hl, p.1 ∈ ks ∨ W.heap.size ≤ p.1) ∧ L.Pairwise (· < ·) ∧ (∀ x, x ∈ L ↔ TxK T x) ∧ L.length ≤ 300000
section
variable {W w w' : World} {ks : List Nat} {F G : List (Nat × Obj)} {T : Tb} {g : Nat} {K : Value → World → Prop}
theorem Txns_k2 {B ba bn bw : Nat} {oa on ow : Obj} {hs : List (Nat × Obj)} {la : List (Int × Unit)} (hB : TbB T on ow hs) (hmine : ∀ p ∈ tbL g bn bw on ow hs, p.1 ∈ ks ∨ W.heap.size ≤ p.1) (hU : Upd W w ks) (hO : Owns w ((ba, oa) :: (tbL g bn bw on ow hs ++ F))) (hm : MapO keyI uV la oa) (hk1 : Keys1 la) (hlen : la.length ≤ 300000) (hkey : ∀ x, x ∈ keysOf la ↔ TxK T x) (h64 : ∀ x, TxK T x → in64 x) :
    lock_Table_Txns_k2 (std Try.prog) (.map (some ba)) w fun u w' => ∃ L, TxnsPost W ks F L T g u w' := by
  unfold lock_Table_Txns_k2
  refine st_call (KeysI_spec w ba) ?_
  rintro _ w1 ⟨rfl, rfl⟩
  refine st_call (SortedI_spec (w := w) (hO.at_ 0 rfl) hm hk1 (by omega) (fun p hp => h64 _ ((hkey _).1 (List.mem_map_of_mem hp)))) ?_
  rintro v w2 ⟨hl, hr, hOl, hU2, hn⟩
  have hT : TbAt W ks F T g w := ⟨hU, _, ⟨bn, bw, on, ow, hs, rfl, hB⟩, hO.sub (List.sublist_cons_self ..), hmine⟩
  refine ⟨_, ⟨hl, hr, hT.addH hU2 hOl hn, fun p hp => .inr (Nat.le_trans hU.size (hn p hp))⟩, sortI_lt hk1, fun x => ?_, ?_⟩
  · rw [(sortI_perm _).mem_iff]; exact hkey x
  · rw [(sortI_perm _).length_eq, List.length_map]; exact hlen
theorem Txns_k1 {B ba bn bw : Nat} {oa on ow : Obj} {hs : List (Nat × Obj)} {la : List (Int × Unit)} (hB : TbB T on ow hs) (hfine : Fine T B) (hB5 : B ≤ 500) (hmine : ∀ p ∈ tbL g bn bw on ow hs, p.1 ∈ ks ∨ W.heap.size ≤ p.1) (hU : Upd W w ks) (hO : Owns w ((ba, oa) :: (tbL g bn bw on ow hs ++ F))) (hba : W.heap.size ≤ ba) (hm : MapO keyI uV la oa) (hk1 : Keys1 la) (hlen : la.length ≤ T.waits.length) (hkey : ∀ x, x ∈ keysOf la ↔ x ∈ keysOf T.waits) (h64 : ∀ x, TxK T x → in64 x) :
    lock_Table_Txns_k1 (std Try.prog) (.pointer (some ⟨g, 0, none⟩)) (.map (some ba)) w fun u w' => ∃ L, TxnsPost W ks F L T g u w' := by
  unfold lock_Table_Txns_k1
  generalize hH : tbL g bn bw on ow hs ++ F = H at hO
  have hmemH : ∀ p ∈ tbL g bn bw on ow hs, p ∈ H := fun p hp => by rw [← hH]; exact List.mem_append_left _ hp
  have c0 : w.cell? ⟨g, 0, none⟩ = some (.map (some bn)) := (cell_at (hO.2 (g, tbO bn bw) (List.mem_cons_of_mem _ (hmemH _ (by simp [tbL]))))).trans rfl
  simp (disch := first | assumption | omega) only [PX, LX, add_mk, Nat.reduceAdd]
  obtain ⟨jn, hjn⟩ := List.getElem?_of_mem (hmemH (bn, on) (by simp [tbL]))
  refine st_range uNames hU hO (jn + 1) (by rw [List.getElem?_cons_succ]; exact hjn) hB.1 ?_
  intro r w1 ob hI hU1 hO1 hr
  have hfin : sumH T.names ≤ B * B := Nat.le_trans (sumH_le (B := B) T.names fun p hp => by
    have := hfine.sz.nm p.1 p.2 (mem_names hfine.ok.keys hp)
    unfold szN at this; omega) (Nat.mul_le_mul hfine.ok.len (Nat.le_refl B))
  have hBB : B * B ≤ 250000 := Nat.mul_le_mul hB5 hB5
  have hwl := hfine.sz.waits
  let I : Nat → List Value → World → Prop := fun k vs w' => ∃ left ob la oa, k = left.length ∧ IterH strV ptV bn on left ob ∧ MapO keyI uV la oa ∧ Owns w' ((r, ob) :: (ba, oa) :: H) ∧ Upd W w' ks ∧ Keys1 la ∧ la.length + sumH left ≤ B + B * B ∧ (∀ p ∈ left, p ∈ T.names) ∧ (∀ x, (x ∈ keysOf la ∨ ∃ p ∈ left, x ∈ keysOf p.2.2.held) ↔ TxK T x)
  refine st_loop (fun vs w' => ∃ k, I k vs w') (minK I) ⟨_, T.names, ob, la, oa, rfl, hI, hm, hO1, hU1, hk1, by omega, fun p hp => hp, fun x => by unfold TxK; rw [hkey]⟩ ?_
  rintro dv vs w2 - hex
  obtain ⟨⟨left, ob2, la2, oa2, hk, hI2, hm2, hO2, hU2, hk12, hl2, hsub2, hx2⟩, -⟩ := minK_spec hex
  generalize minK I vs w2 = k at hk
  refine st_next hU2 hO2 0 rfl (jn + 2) (by rw [List.getElem?_cons_succ, List.getElem?_cons_succ]; exact hjn) hI2 (.inr hr) ?_ ?_
  · rintro rfl
    rw [px_ext1]
    simp only [BX]
    rw [← hH] at hO2
    refine Txns_k2 (B := B) hB hmine hU2 (hO2.sub (List.sublist_cons_self ..)) hm2 hk12 (by omega) (fun x => ?_) h64
    have := hx2 x
    simpa using this
  · intro p left' w3 ob3 hperm hI3 hent hU3 hO3
    have hO3 : Owns w3 ((r, ob3) :: (ba, oa2) :: H) := hO3
    have hlen := hperm.length_eq
    simp only [List.length_cons] at hlen
    have hp : p ∈ T.names := hsub2 p (hperm.mem_iff.1 (List.mem_cons_self ..))
    have hsub3 : ∀ p' ∈ left', p' ∈ T.names := fun p' hp' => hsub2 p' (hperm.mem_iff.1 (List.mem_cons_of_mem _ hp'))
    have hsum : sumH left = p.2.2.held.length + sumH left' := by rw [← sumH_perm hperm]; unfold sumH; rw [List.map_cons, List.sum_cons]
    simp only [PX, BX]
    rw [step_run (hent w3 (hO3.at_ 0 rfl) (hO3.2 _ (List.mem_cons_of_mem _ (List.mem_cons_of_mem _ (hmemH (bn, on) (by simp [tbL]))))))]
    obtain ⟨bh, oh, vt, vr, hgm, hbm, hmap⟩ := hB.mem hp
    have hgm := hmemH (p.2.1, nmO bh vt vr) (by simp [tbL, hgm])
    have hbm := hmemH (bh, oh) (by simp [tbL, hbm])
    have c1 : w3.cell? ⟨p.2.1, 0, none⟩ = some (.map (some bh)) := (cell_at (hO3.2 _ (List.mem_cons_of_mem _ (List.mem_cons_of_mem _ hgm)))).trans rfl
    unfold ptV
    simp (disch := first | assumption | omega) only [PX, LX, add_mk, Nat.reduceAdd]
    obtain ⟨jh, hjh⟩ := List.getElem?_of_mem hbm
    refine st_range uHeld hU3 hO3 (jh + 2) (by rw [List.getElem?_cons_succ, List.getElem?_cons_succ]; exact hjh) hmap ?_
    intro r2 w4 ob4 hI4 hU4 hO4 hr2
    let J : Nat → List Value → World → Prop := fun k vs w' => ∃ lefti ob la oa, k = lefti.length ∧ IterH keyI keyI bh oh lefti ob ∧ MapO keyI uV la oa ∧ Owns w' ((r2, ob) :: (r, ob3) :: (ba, oa) :: H) ∧ Upd W w' ks ∧ Keys1 la ∧ la.length + lefti.length + sumH left' ≤ B + B * B ∧ (∀ x, (x ∈ keysOf la ∨ x ∈ keysOf lefti ∨ ∃ p ∈ left', x ∈ keysOf p.2.2.held) ↔ TxK T x)
    refine st_loop (fun vs w' => ∃ k, J k vs w') (minK J) ⟨_, p.2.2.held, ob4, la2, oa2, rfl, hI4, hm2, hO4, hU4, hk12, by omega, fun x => ?_⟩ ?_
    · rw [← hx2 x]
      constructor
      · rintro (h | h | ⟨p', hp', h⟩)
        · exact .inl h
        · exact .inr ⟨p, hperm.mem_iff.1 (List.mem_cons_self ..), h⟩
        · exact .inr ⟨p', hperm.mem_iff.1 (List.mem_cons_of_mem _ hp'), h⟩
      · rintro (h | ⟨p', hp', h⟩)
        · exact .inl h
        · rcases List.mem_cons.1 (hperm.mem_iff.2 hp') with rfl | hp'
          · exact .inr (.inl h)
          · exact .inr (.inr ⟨p', hp', h⟩)
    rintro dv2 vs2 w5 - hex2
    obtain ⟨⟨lefti, ob5, la5, oa5, hk5, hI5, hm5, hO5, hU5, hk15, hl5, hx5⟩, -⟩ := minK_spec hex2
    generalize minK J vs2 w5 = k2 at hk5
    refine st_next hU5 hO5 0 rfl (jh + 3) (by rw [List.getElem?_cons_succ, List.getElem?_cons_succ, List.getElem?_cons_succ]; exact hjh) hI5 (.inr hr2) ?_ ?_
    · rintro rfl
      rw [px_ext1]
      simp only [BX]
      refine minK_go (I := I) (k' := left'.length) ⟨left', ob3, la5, oa5, rfl, hI3, hm5, hO5.sub (List.sublist_cons_self ..), hU5, hk15, by simp at hl5; omega, hsub3, fun x => ?_⟩ (by omega)
      have := hx5 x
      simpa using this
    · intro e lefti' w6 ob6 hperm6 hI6 hent6 hU6 hO6
      have hO6 : Owns w6 ((r2, ob6) :: (r, ob3) :: (ba, oa5) :: H) := hO6
      have hlen6 := hperm6.length_eq
      simp only [List.length_cons] at hlen6
      simp only [PX, BX]
      rw [step_run (hent6 w6 (hO6.at_ 0 rfl) (hO6.2 _ (List.mem_cons_of_mem _ (List.mem_cons_of_mem _ (List.mem_cons_of_mem _ hbm)))))]
      simp only [PX, BX]
      refine st_mapUpdate (ve := uV) uAll keyI_ok hU6 hO6 2 rfl hm5 (.inr hba) e.1 () ?_
      intro w7 oa7 hm7 hU7 hO7
      have hO7 : Owns w7 ((r2, ob6) :: (r, ob3) :: (ba, oa7) :: H) := hO7
      refine minK_go (I := J) (k' := lefti'.length) ⟨lefti', ob6, aSet la5 e.1 (), oa7, rfl, hI6, hm7, hO7, hU7, hk15.set, ?_, fun x => ?_⟩ (by omega)
      · have := aSet_le e.1 () la5; omega
      · rw [← hx5 x]
        unfold keysOf
        rw [aSet_keys]
        constructor
        · rintro ((h | h) | h | h)
          · exact .inr (.inl (by rw [h]; exact List.mem_map_of_mem (f := (·.1)) (hperm6.mem_iff.1 (List.mem_cons_self ..))))
          · exact .inl h
          · obtain ⟨q, hq, hqe⟩ := List.mem_map.1 h
            exact .inr (.inl (by rw [← hqe]; exact List.mem_map_of_mem (f := (·.1)) (hperm6.mem_iff.1 (List.mem_cons_of_mem _ hq))))
          · exact .inr (.inr h)
        · rintro (h | h | h)
          · exact .inl (.inr h)
          · obtain ⟨q, hq, hqe⟩ := List.mem_map.1 h
            rcases List.mem_cons.1 (hperm6.mem_iff.2 hq) with hqq | hqq
            · exact .inl (.inl (by rw [← hqe, hqq]))
            · exact .inr (.inl (by rw [← hqe]; exact List.mem_map_of_mem (f := (·.1)) hqq))
          · exact .inr (.inr h)
end
end Go.Proofs.Ytakifgecgmdjcaa
