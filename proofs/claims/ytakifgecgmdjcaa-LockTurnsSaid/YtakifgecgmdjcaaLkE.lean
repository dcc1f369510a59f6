/- Locks: a table in a world, and what is done to it. -/
import Derived.Test.YtakifgecgmdjcaaLkD
namespace Go.Proofs.Ytakifgecgmdjcaa
open Go Xf Go.RowKit
set_option linter.unusedVariables false
set_option linter.unusedSimpArgs false
set_option maxRecDepth 100000

def TbAt (W : World) (ks : List Nat) (F : List (Nat × Obj)) (T : Tb) (g : Nat) (w : World) : Prop :=
  Upd W w ks ∧ ∃ h, TbH T g h ∧ Owns w (h ++ F) ∧ ∀ p ∈ h, p.1 ∈ ks ∨ W.heap.size ≤ p.1
section
variable {W w w' : World} {ks : List Nat} {F G : List (Nat × Obj)} {T : Tb} {g : Nat} {K : Value → World → Prop}
theorem TbAt.upd (h : TbAt W ks F T g w) (hU : Upd w w' []) : TbAt W ks F T g w' := by
  obtain ⟨h1, h2, h3, h4, h5⟩ := h
  exact ⟨h1.then_ hU (fun x hx => by cases hx), h2, h3, h4.ext hU, h5⟩
theorem TbAt.weak (h : TbAt W ks F T g w) (hs : G.Sublist F) : TbAt W ks G T g w := by
  obtain ⟨h1, h2, h3, h4, h5⟩ := h
  exact ⟨h1, h2, h3, h4.sub (hs.append_left h2), h5⟩
theorem TbAt.permF (h : TbAt W ks F T g w) (hs : F.Perm G) : TbAt W ks G T g w := by
  obtain ⟨h1, h2, h3, h4, h5⟩ := h
  exact ⟨h1, h2, h3, h4.perm (hs.append_left h2), h5⟩
theorem TbAt.at_ (h : TbAt W ks F T g w) {b : Nat} {o : Obj} (hm : (b, o) ∈ F) : w.heap[b]? = some o := by
  obtain ⟨h1, h2, h3, h4, h5⟩ := h
  exact h4.2 _ (List.mem_append_right _ hm)
theorem TbAt.owns (h : TbAt W ks F T g w) : Owns w F := by
  obtain ⟨h1, h2, h3, h4, h5⟩ := h
  exact h4.sub (List.sublist_append_right h2 F)
/-- what a table's cells tell -/
theorem TbAt.look (h : TbAt W ks F T g w) : ∃ bn bw on ow, w.cell? ⟨g, 0, none⟩ = some (.map (some bn)) ∧ w.cell? ⟨g, 1, none⟩ = some (.map (some bw)) ∧ w.heap[bn]? = some on ∧ MapO strV ptV T.names on ∧ w.heap[bw]? = some ow ∧ MapO keyI wtV T.waits ow ∧ w.heap[g]? = some (tbO bn bw) := by
  obtain ⟨h1, h2, ⟨bn, bw, on, ow, hs, rfl, hB⟩, h4, h5⟩ := h
  have h0 := h4.at_ 0 rfl
  exact ⟨bn, bw, on, ow, (cell_at h0).trans rfl, (cell_at h0).trans rfl, h4.at_ 1 rfl, hB.1, h4.at_ 2 rfl, hB.2.1, h0⟩
theorem TbAt.add (h : TbAt W ks F T g w) (o : Obj) : TbAt W ks ((w.heap.size, o) :: F) T g (w.alloc o) ∧ W.heap.size ≤ w.heap.size := by
  obtain ⟨h1, h2, h3, h4, h5⟩ := h
  refine ⟨⟨h1.then_ (Upd.alloc _ _ []) (fun x hx => by cases hx), h2, h3, (h4.alloc o).perm ?_, h5⟩, h1.size⟩
  exact List.perm_middle.symm
theorem st_tbox {t : TypeId} {v : Value} (h : TbAt W ks F T g w) (hk : ∀ b w', TbAt W ks ((b, .cells v.cells t) :: F) T g w' → W.heap.size ≤ b → K (.pointer (some ⟨b, 0, none⟩)) w') : (std Try.prog).step (sBox t v) w K := by
  rw [step_run run_sBox]
  exact hk _ _ (h.add _).1 (h.add (.cells v.cells t)).2
theorem st_talloc {t : TypeId} {z : Value} (hz : (Try.prog.info? t).bind (·.zero) = some z) (h : TbAt W ks F T g w) (hk : ∀ b w', TbAt W ks ((b, .cells z.cells t) :: F) T g w' → W.heap.size ≤ b → K (.pointer (some ⟨b, 0, none⟩)) w') : (std Try.prog).step (sAlloc t) w K := by
  rw [step_run (run_sAlloc hz)]
  exact hk _ _ (h.add _).1 (h.add (.cells z.cells t)).2
/-- a store into a block beside the table -/
theorem st_tstoreN {t e : TypeId} {b : Nat} {cs : Array Value} {vs : List Value} (hn : (Try.prog.info? t).map (·.size) = some vs.length) (h : TbAt W ks ((b, .cells cs e (0, 0)) :: F) T g w) (hl : vs.length = cs.size) (h1 : ∀ u ∈ vs, u.oneCell' = true) (hb : b ∈ ks ∨ W.heap.size ≤ b)
    (hk : ∀ w', TbAt W ks ((b, .cells vs.toArray e (0, 0)) :: F) T g w' → K undef w') : (std Try.prog).step (sStore t (.pointer (some ⟨b, 0, none⟩)) (.agg vs.toArray)) w K := by
  obtain ⟨q1, hh, q3, q4, q5⟩ := h
  have hO : Owns w ((b, .cells cs e (0, 0)) :: (hh ++ F)) := q4.perm List.perm_middle
  refine st_storeN hn q1 hO 0 rfl (by omega) h1 hb ?_
  intro w' hU' hO'
  refine hk w' ⟨hU', hh, q3, ?_, q5⟩
  have e1 : (cs.toList.take 0 ++ vs ++ cs.toList.drop (0 + vs.length)).toArray = vs.toArray := by
    rw [List.take_zero, List.nil_append, Nat.zero_add, hl, List.drop_of_length_le (by simp), List.append_nil]
  have hO' : Owns w' ((b, .cells (cs.toList.take 0 ++ vs ++ cs.toList.drop (0 + vs.length)).toArray e (0, 0)) :: (hh ++ F)) := hO'
  rw [e1] at hO'
  exact hO'.perm List.perm_middle.symm
theorem st_tstore1 {t e : TypeId} {b : Nat} {v u : Value} (hn : (Try.prog.info? t).map (·.size) = some 1) (hv : oneB v = true) (h : TbAt W ks ((b, .cells #[u] e (0, 0)) :: F) T g w) (hb : b ∈ ks ∨ W.heap.size ≤ b)
    (hk : ∀ w', TbAt W ks ((b, .cells #[v] e (0, 0)) :: F) T g w' → K undef w') : (std Try.prog).step (sStore t (.pointer (some ⟨b, 0, none⟩)) v) w K := by
  obtain ⟨q1, hh, q3, q4, q5⟩ := h
  have hO : Owns w ((b, .cells #[u] e (0, 0)) :: (hh ++ F)) := q4.perm List.perm_middle
  refine st_storeB hn hv q1 hO 0 rfl (by simp) (.inr (Nat.zero_le _)) hb ?_
  intro w' hU' hO'
  exact hk w' ⟨hU', hh, q3, Owns.perm (h := (b, .cells #[v] e (0, 0)) :: (hh ++ F)) hO' List.perm_middle.symm, q5⟩
theorem st_waitsSet {bw : Nat} (h : TbAt W ks F T g w) (hc : w.cell? ⟨g, 1, none⟩ = some (.map (some bw))) (k : Int) (v : Wt) (hk : ∀ w', TbAt W ks F ⟨T.names, aSet T.waits k v⟩ g w' → K undef w') : (std Try.prog).step (sMapUpdate 63 (.map (some bw)) (keyI k) (wtV v)) w K := by
  obtain ⟨h1, h2, ⟨bn, bw', on, ow, hs, rfl, hB⟩, h4, h5⟩ := h
  have : bw' = bw := by
    have := (cell_at (off := 1) (h4.at_ 0 rfl)).symm.trans hc
    simpa using this
  subst this
  refine st_mapUpdate uWaits keyI_ok h1 h4 2 rfl hB.2.1 (h5 (bw', ow) (by simp [tbL])) k v ?_
  intro w' o' hm' hU' hO'
  refine hk w' ⟨hU', tbL g bn bw' on o' hs, ⟨bn, bw', on, o', hs, rfl, hB.1, hm', hB.2.2⟩, hO', fun p hp => ?_⟩
  simp only [tbL, List.mem_cons] at hp h5
  rcases hp with rfl | rfl | rfl | hp
  · exact h5 _ (.inl rfl)
  · exact h5 _ (.inr (.inl rfl))
  · exact h5 (bw', ow) (.inr (.inr (.inl rfl)))
  · exact h5 p (.inr (.inr (.inr hp)))
theorem st_waitsDel {bw : Nat} {ty kt' : TypeId} {cs : List Bool} (h : TbAt W ks F T g w) (hc : w.cell? ⟨g, 1, none⟩ = some (.map (some bw))) (k : Int) (hk : ∀ w', TbAt W ks F ⟨T.names, aDel T.waits k⟩ g w' → K (.tuple #[]) w') : (std Try.prog).step (sBuiltin .delete #[63, kt'] ty cs [.map (some bw), keyI k]) w K := by
  obtain ⟨h1, h2, ⟨bn, bw', on, ow, hs, rfl, hB⟩, h4, h5⟩ := h
  have : bw' = bw := by
    have := (cell_at (off := 1) (h4.at_ 0 rfl)).symm.trans hc
    simpa using this
  subst this
  refine st_mapDelete uWaits keyI_ok h1 h4 2 rfl hB.2.1 (h5 (bw', ow) (by simp [tbL])) k ?_
  intro w' o' hm' hU' hO'
  refine hk w' ⟨hU', tbL g bn bw' on o' hs, ⟨bn, bw', on, o', hs, rfl, hB.1, hm', hB.2.2⟩, hO', fun p hp => ?_⟩
  simp only [tbL, List.mem_cons] at hp h5
  rcases hp with rfl | rfl | rfl | hp
  · exact h5 _ (.inl rfl)
  · exact h5 _ (.inr (.inl rfl))
  · exact h5 (bw', ow) (.inr (.inr (.inl rfl)))
  · exact h5 p (.inr (.inr (.inr hp)))
def nm0 (bh : Nat) : Obj := nmO bh (.slice none 0 0) (.slice none 0 0)
theorem st_namesNew {bn gn bh : Nat} {s : List UInt8} (h : TbAt W ks ((gn, nm0 bh) :: (bh, .map #[] 0) :: F) T g w) (hc : w.cell? ⟨g, 0, none⟩ = some (.map (some bn))) (hn : aGet T.names s = none) (hg : W.heap.size ≤ gn) (hb : W.heap.size ≤ bh)
    (hk : ∀ w', TbAt W ks F (putN T s (gn, noNm)) g w' → K undef w') : (std Try.prog).step (sMapUpdate 61 (.map (some bn)) (strV s) (.pointer (some ⟨gn, 0, none⟩))) w K := by
  obtain ⟨h1, h2, ⟨bn', bw, on, ow, hs, rfl, hB⟩, h4, h5⟩ := h
  have : bn' = bn := by
    have := (cell_at (off := 0) (h4.at_ 0 rfl)).symm.trans hc
    simpa using this
  subst this
  refine st_mapUpdate (ve := ptV) uNames strV_ok h1 h4 1 rfl hB.1 (h5 (bn', on) (by simp [tbL])) s (gn, noNm) ?_
  intro w' o' hm' hU' hO'
  have hO' : Owns w' (tbL g bn' bw o' ow hs ++ ((gn, nm0 bh) :: (bh, .map #[] 0) :: F)) := hO'
  refine hk w' ⟨hU', tbL g bn' bw o' ow (hs ++ [(gn, nm0 bh), (bh, .map #[] 0)]), ⟨bn', bw, o', ow, _, rfl, hm', hB.2.1, ?_⟩, ?_, fun p hp => ?_⟩
  · show NmsH (aSet T.names s (gn, noNm)) _
    rw [aSet_new hn]
    refine NmsH.mid.2 ⟨[(gn, nm0 bh), (bh, .map #[] 0)], hs, ⟨bh, _, _, _, [], [], rfl, MapO.nil _ _, RowH.nil_ _ _, RowH.nil_ _ _⟩, by rw [List.append_nil]; exact hB.2.2, List.perm_append_comm⟩
  · have : tbL g bn' bw o' ow (hs ++ [(gn, nm0 bh), (bh, .map #[] 0)]) ++ F = tbL g bn' bw o' ow hs ++ ((gn, nm0 bh) :: (bh, .map #[] 0) :: F) := by simp [tbL]
    rw [this]; exact hO'
  · simp only [tbL, List.mem_cons, List.mem_append, List.not_mem_nil, or_false] at hp h5
    rcases hp with rfl | rfl | rfl | hp | rfl | rfl
    · exact h5 _ (.inl rfl)
    · exact h5 (bn', on) (.inr (.inl rfl))
    · exact h5 _ (.inr (.inr (.inl rfl)))
    · exact h5 p (.inr (.inr (.inr hp)))
    · exact .inr hg
    · exact .inr hb
theorem st_namesDel {bn : Nat} {ty kt' : TypeId} {cs : List Bool} {s : List UInt8} {gn : Nat} {n : Nm} (h : TbAt W ks F T g w) (hc : w.cell? ⟨g, 0, none⟩ = some (.map (some bn))) (hn : aGet T.names s = some (gn, n))
    (hk : ∀ w', TbAt W ks F ⟨aDel T.names s, T.waits⟩ g w' → K (.tuple #[]) w') : (std Try.prog).step (sBuiltin .delete #[61, kt'] ty cs [.map (some bn), strV s]) w K := by
  obtain ⟨h1, h2, ⟨bn', bw, on, ow, hs, rfl, hB⟩, h4, h5⟩ := h
  have : bn' = bn := by
    have := (cell_at (off := 0) (h4.at_ 0 rfl)).symm.trans hc
    simpa using this
  subst this
  refine st_mapDelete uNames strV_ok h1 h4 1 rfl hB.1 (h5 (bn', on) (by simp [tbL])) s ?_
  intro w' o' hm' hU' hO'
  have hO' : Owns w' (tbL g bn' bw o' ow hs ++ F) := hO'
  obtain ⟨A, B, hx, hF, e1, h6, h7, h8, e3, -⟩ := hB.focus hn
  refine hk w' ⟨hU', tbL g bn' bw o' ow hF, ⟨bn', bw, o', ow, _, rfl, hm', hB.2.1, ?_⟩, ?_, fun p hp => ?_⟩
  · show NmsH (aDel T.names s) _
    rw [e3]; exact h7
  · have hp : (tbL g bn' bw o' ow hs ++ F).Perm (hx ++ (tbL g bn' bw o' ow hF ++ F)) := by
      refine List.Perm.trans ((List.Perm.append_left (tbL g bn' bw o' ow []) (h8.symm)).append_right F |>.trans ?_ : (tbL g bn' bw o' ow hs ++ F).Perm _) (List.Perm.refl _)
      classical
      refine List.perm_iff_count.2 fun y => ?_
      simp only [tbL, List.count_cons, List.count_append, List.count_nil]
      omega
    exact (hO'.perm hp).sub (List.sublist_append_right _ _)
  · simp only [tbL, List.mem_cons] at hp h5
    rcases hp with rfl | rfl | rfl | hp
    · exact h5 _ (.inl rfl)
    · exact h5 (bn', on) (.inr (.inl rfl))
    · exact h5 _ (.inr (.inr (.inl rfl)))
    · exact h5 p (.inr (.inr (.inr (h8.mem_iff.1 (List.mem_append_right _ hp)))))
/-- one name, taken out and laid back -/
theorem TbAt.focus {s : List UInt8} {gn : Nat} {n : Nm} (h : TbAt W ks F T g w) (hn : aGet T.names s = some (gn, n)) : ∃ hx G, NmH n gn hx ∧ Owns w (hx ++ G) ∧ Upd W w ks ∧ (∀ p ∈ hx, p.1 ∈ ks ∨ W.heap.size ≤ p.1) ∧ (∀ p ∈ F, p ∈ G) ∧
    (∀ w' n' hx', NmH n' gn hx' → Owns w' (hx' ++ G) → Upd W w' ks → (∀ p ∈ hx', p.1 ∈ ks ∨ W.heap.size ≤ p.1) → TbAt W ks F (putN T s (gn, n')) g w') := by
  obtain ⟨h1, h2, ⟨bn, bw, on, ow, hs, rfl, hB⟩, h4, h5⟩ := h
  obtain ⟨A, B, hx, hF, e1, h6, h7, h8, e3, hcl⟩ := hB.focus hn
  have cnt : ∀ (hy hz : List (Nat × Obj)), (hy ++ hF).Perm hz → (hy ++ (tbL g bn bw on ow hF ++ F)).Perm (tbL g bn bw on ow hz ++ F) := fun hy hz hp => by
    refine List.Perm.trans ?_ ((List.Perm.append_left (tbL g bn bw on ow []) hp).append_right F)
    classical
    refine List.perm_iff_count.2 fun y => ?_
    simp only [tbL, List.count_cons, List.count_append, List.count_nil]
    omega
  refine ⟨hx, tbL g bn bw on ow hF ++ F, h6, h4.perm (cnt hx hs h8).symm, h1, fun p hp => h5 p ?_, fun p hp => List.mem_append_right _ hp, fun w' n' hx' q1 q2 q3 q4 => ?_⟩
  · have := h8.mem_iff.1 (List.mem_append_left hF hp)
    simp [tbL, this]
  · refine ⟨q3, tbL g bn bw on ow (hx' ++ hF), ⟨bn, bw, on, ow, _, rfl, hcl n' hx' _ q1 (List.Perm.refl _)⟩, q2.perm (cnt hx' _ (List.Perm.refl _)), fun p hp => ?_⟩
    simp only [tbL, List.mem_cons, List.mem_append] at hp h5
    rcases hp with rfl | rfl | rfl | hp | hp
    · exact h5 _ (.inl rfl)
    · exact h5 _ (.inr (.inl rfl))
    · exact h5 _ (.inr (.inr (.inl rfl)))
    · exact q4 p hp
    · exact h5 p (.inr (.inr (.inr (h8.mem_iff.1 (List.mem_append_right _ hp)))))
end
end Go.Proofs.Ytakifgecgmdjcaa
