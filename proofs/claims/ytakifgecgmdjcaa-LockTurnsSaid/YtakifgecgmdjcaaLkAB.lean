/- Locks: Txns, whole; beside. -/
import Derived.Test.YtakifgecgmdjcaaLkAA
namespace Go.Proofs.Ytakifgecgmdjcaa
open Go Xf Go.RowKit
set_option linter.unusedVariables false
set_option linter.unusedSimpArgs false
set_option maxRecDepth 100000

theorem key_get {ν : Type} {l : List (Int × ν)} {x : Int} (h : x ∈ keysOf l) : ∃ v, aGet l x = some v := Option.isSome_iff_exists.1 (aGet_keys.2 h)
theorem Good.wait {T : Tb} (h : Good T) {x : Int} {w : Wt} (hx : aGet T.waits x = some w) : ∃ q, aGet T.names w.name = some q ∧ x ∈ rowsN q.2 ∧ GoodW q.2 x w := by
  obtain ⟨q, h1, h2⟩ := h.conv' hx
  obtain ⟨w', e1, e2, e3⟩ := (h.nm' h1).rows x h2
  rw [hx] at e1; injection e1 with e1; subst e1
  exact ⟨q, h1, h2, e3⟩
theorem Fine.txk {T : Tb} {B : Nat} (h : Fine T B) {x : Int} (hx : TxK T x) : 1 ≤ x ∧ in64 x := by
  rcases hx with hx | ⟨p, hp, hx⟩
  · obtain ⟨w, hw⟩ := key_get hx
    obtain ⟨q, -, -, h1, h2, -⟩ := h.good.wait hw
    exact ⟨h1, h2⟩
  · obtain ⟨m, hm⟩ := key_get hx
    obtain ⟨h1, h2, -⟩ := (h.good.nm' (mem_names h.ok.keys hp)).held1 x m hm
    exact ⟨h1, h2⟩
section
variable {W w w' : World} {ks : List Nat} {F G : List (Nat × Obj)} {T : Tb} {g : Nat} {K : Value → World → Prop}
theorem Txns_spec {B : Nat} (h : TbAt W ks F T g w) (hfine : Fine T B) (hB5 : B ≤ 500) :
    CallsR Try.prog 14 #[.pointer (some ⟨g, 0, none⟩)] w fun u w' => ∃ L, TxnsPost W ks F L T g u w' := by
  apply lock_Table_Txns_sound
  unfold lock_Table_Txns_x
  obtain ⟨hU, _, ⟨bn, bw, on, ow, hs, rfl, hB⟩, hO, hmine⟩ := h
  refine st_makeMap hU hO ?_
  intro ba w1 hU1 hO1 hba
  have c1 : w1.cell? ⟨g, 1, none⟩ = some (.map (some bw)) := (cell_at (hO1.at_ 1 rfl)).trans rfl
  simp (disch := first | assumption | omega) only [PX, BX, LX, add_mk, Nat.reduceAdd]
  refine st_range uWaits hU1 hO1 3 rfl hB.2.1 ?_
  intro r w2 ob hI hU2 hO2 hr
  have h64 : ∀ x, TxK T x → in64 x := fun x hx => (hfine.txk hx).2
  let I : Nat → List Value → World → Prop := fun k vs w' => ∃ left ob la oa, k = left.length ∧ IterH keyI wtV bw ow left ob ∧ MapO keyI uV la oa ∧ Owns w' ((r, ob) :: (ba, oa) :: (tbL g bn bw on ow hs ++ F)) ∧ Upd W w' ks ∧ Keys1 la ∧ la.length + left.length ≤ T.waits.length ∧ (∀ x, (x ∈ keysOf la ∨ x ∈ keysOf left) ↔ x ∈ keysOf T.waits)
  refine st_loop (fun vs w' => ∃ k, I k vs w') (minK I) ⟨_, T.waits, ob, [], _, rfl, hI, MapO.nil _ _, hO2, hU2, List.nodup_nil, by simp, fun x => by simp⟩ ?_
  rintro dv vs w3 - hex
  obtain ⟨⟨left, ob3, la3, oa3, hk, hI3, hm3, hO3, hU3, hk13, hl3, hx3⟩, -⟩ := minK_spec hex
  generalize minK I vs w3 = k at hk
  refine st_next hU3 hO3 0 rfl 4 rfl hI3 (.inr hr) ?_ ?_
  · rintro rfl
    rw [px_ext1]
    simp only [BX]
    refine Txns_k1 hB hfine hB5 hmine hU3 (hO3.sub (List.sublist_cons_self ..)) hba hm3 hk13 (by simpa using hl3) (fun x => ?_) h64
    have := hx3 x
    simpa using this
  · intro e left' w4 ob4 hperm hI4 hent hU4 hO4
    have hO4 : Owns w4 ((r, ob4) :: (ba, oa3) :: (tbL g bn bw on ow hs ++ F)) := hO4
    have hlen := hperm.length_eq
    simp only [List.length_cons] at hlen
    simp only [PX, BX]
    rw [step_run (hent w4 (hO4.at_ 0 rfl) (hO4.at_ 4 rfl))]
    simp only [PX, BX]
    refine st_mapUpdate (ve := uV) uAll keyI_ok hU4 hO4 1 rfl hm3 (.inr hba) e.1 () ?_
    intro w5 oa5 hm5 hU5 hO5
    have hO5 : Owns w5 ((r, ob4) :: (ba, oa5) :: (tbL g bn bw on ow hs ++ F)) := hO5
    refine minK_go (I := I) (k' := left'.length) ⟨left', ob4, aSet la3 e.1 (), oa5, rfl, hI4, hm5, hO5, hU5, hk13.set, ?_, fun x => ?_⟩ (by omega)
    · have := aSet_le e.1 () la3; omega
    · rw [← hx3 x]
      unfold keysOf
      rw [aSet_keys]
      constructor
      · rintro ((h | h) | h)
        · exact .inr (by rw [h]; exact List.mem_map_of_mem (f := (·.1)) (hperm.mem_iff.1 (List.mem_cons_self ..)))
        · exact .inl h
        · obtain ⟨q, hq, hqe⟩ := List.mem_map.1 h
          exact .inr (by rw [← hqe]; exact List.mem_map_of_mem (f := (·.1)) (hperm.mem_iff.1 (List.mem_cons_of_mem _ hq)))
      · rintro (h | h)
        · exact .inl (.inr h)
        · obtain ⟨q, hq, hqe⟩ := List.mem_map.1 h
          rcases List.mem_cons.1 (hperm.mem_iff.2 hq) with hqq | hqq
          · exact .inl (.inl (by rw [← hqe, hqq]))
          · exact .inr (by rw [← hqe]; exact List.mem_map_of_mem (f := (·.1)) hqq)
/-- do the locks of two go beside one another? -/
theorem beside_spec {v1 v2 : Value} {a b : List He} (h1 : RdS w heV 2 v1 a) (h2 : RdS w heV 2 v2 b) (hb : ∀ p ∈ a, ∀ q ∈ b, p.1 = q.1 → bes (sureN p.2) (sureN q.2) = true) (hl1 : a.length ≤ 1000) (hl2 : b.length ≤ 1000) :
    CallsR Try.prog 16 #[v1, v2] w fun u w' => u = .bool true ∧ Upd w w' [] := by
  apply flotillalaw13_beside_sound
  unfold flotillalaw13_beside_x flotillalaw13_beside_k1
  obtain ⟨A1, c1, rfl⟩ := he_len h1
  obtain ⟨A2, c2, rfl⟩ := he_len h2
  refine st_loop (fun vs w' => ∃ i : Nat, i ≤ a.length ∧ vs.getD 2 undef = .int .i64 i ∧ Upd w w' []) (fun vs _ => a.length - (intOf (vs.getD 2 undef)).toNat) ⟨0, Nat.zero_le _, rfl, Upd.refl _ _⟩ ?_
  rintro dv vs w1 - ⟨i, hi, e0, hU1⟩
  simp (disch := first | assumption | omega) only [e0, PX, BX]
  refine ⟨fun hlt => ?_, fun hge => ⟨trivial, hU1⟩⟩
  have hi' : i < a.length := by omega
  obtain ⟨a1, c1', he1, hc1⟩ := he_at h1 hi'
  injection he1 with q1 q2 q3
  subst q1
  refine st_loop (fun vs2 w' => ∃ j : Nat, j ≤ b.length ∧ vs2.getD 1 undef = .int .i64 j ∧ Upd w w' []) (fun vs2 _ => b.length - (intOf (vs2.getD 1 undef)).toNat) ⟨0, Nat.zero_le _, rfl, hU1⟩ ?_
  rintro dv2 vs2 w2 - ⟨j, hj, f0, hU2⟩
  simp (disch := first | assumption | omega) only [f0, PX, BX]
  refine ⟨fun hlt2 => ?_, fun hge2 => ?_⟩
  rotate_left
  · unfold flotillalaw13_beside_k2
    simp (disch := omega) only [e0, PX, w64]
    refine ⟨⟨i + 1, by omega, rfl, hU2⟩, ?_⟩
    simp only [List.getD_cons_succ, List.getD_cons_zero, intOf]; omega
  have hj' : j < b.length := by omega
  obtain ⟨a2, c2', he2, hc2⟩ := he_at h2 hj'
  injection he2 with q1' q2' q3'
  subst q1'
  have hUd := hU2.trans (Upd.drew w2 [])
  have hne : ∃ w', (fun w' => Upd w w' []) w' := ⟨_, hUd⟩
  refine st_draw (fun w' => Upd w w' []) hUd ?_
  have g0 : ∀ w', Upd w w' [] → w'.cell? (a1.add (i * 2 + 0)) = some (strV a[i].1) := fun w' h => (hc1 w' h).1
  have g1 : ∀ w', Upd w w' [] → w'.cell? (a1.add (i * 2 + 1)) = some (.int .i64 a[i].2) := fun w' h => (hc1 w' h).2
  have k0 : ∀ w', Upd w w' [] → w'.cell? (a2.add (j * 2 + 0)) = some (strV b[j].1) := fun w' h => (hc2 w' h).1
  have k1 : ∀ w', Upd w w' [] → w'.cell? (a2.add (j * 2 + 1)) = some (.int .i64 b[j].2) := fun w' h => (hc2 w' h).2
  simp (disch := first | exact hne | assumption | omega) only [SX, SLX, add_add', mk_inj]
  rw [bool_dec]
  refine ⟨fun hnm => ?_, fun hnm => ?_⟩
  · refine st_call (rBeside_spec _ _ _) ?_
    rintro _ w4 ⟨rfl, rfl⟩
    refine st_keepT (fun w' => Upd w w' []) hUd ?_
    rw [hb _ (List.getElem_mem hi') _ (List.getElem_mem hj') hnm]
    simp (disch := first | exact hne | assumption | omega) only [SX]
    simp only [Bool.not_true]
    rw [bool_var]
    refine ⟨fun h => (by cases h), fun _ => ?_⟩
    unfold flotillalaw13_beside_k3
    simp (disch := omega) only [f0, PX, w64]
    refine ⟨⟨j + 1, by omega, rfl, hUd⟩, ?_⟩
    simp only [List.getD_cons_succ, List.getD_cons_zero, intOf]; omega
  · unfold flotillalaw13_beside_k3
    simp (disch := omega) only [f0, PX, w64]
    refine ⟨⟨j + 1, by omega, rfl, hUd⟩, ?_⟩
    simp only [List.getD_cons_succ, List.getD_cons_zero, intOf]; omega
end
end Go.Proofs.Ytakifgecgmdjcaa
