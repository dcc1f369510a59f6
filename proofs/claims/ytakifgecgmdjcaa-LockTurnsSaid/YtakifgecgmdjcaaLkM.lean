/- Locks: gone. -/
import Derived.Test.YtakifgecgmdjcaaLkL
namespace Go.Proofs.Ytakifgecgmdjcaa
open Go Xf Go.RowKit
set_option linter.unusedVariables false
set_option linter.unusedSimpArgs false
set_option maxRecDepth 100000

section
variable {W w w' : World} {ks : List Nat} {F G : List (Nat × Obj)} {T : Tb} {g : Nat} {K : Value → World → Prop}
theorem TbAt.addH {hS : List (Nat × Obj)} (h : TbAt W ks F T g w) (hU : Upd w w' []) (hO : Owns w' hS) (hn : ∀ p ∈ hS, w.heap.size ≤ p.1) : TbAt W ks (hS ++ F) T g w' := by
  obtain ⟨h1, h2, h3, h4, h5⟩ := h
  refine ⟨h1.then_ hU (fun x hx => by cases hx), h2, h3, (h4.add hU hO hn).perm ?_, h5⟩
  classical
  refine List.perm_iff_count.2 fun y => ?_
  simp only [List.count_append]
  omega
/-- the names of a table, sorted -/
theorem st_sorted {B : Nat} {bn : Nat} (h : TbAt W ks F T g w) (hok : okT T B) (hB : B ≤ 1000) (hc : w.cell? ⟨g, 0, none⟩ = some (.map (some bn)))
    (hk : ∀ v hS w', RowH 9 1 v (sortS (T.names.map (·.1))).length ((sortS (T.names.map (·.1))).map strV) hS → TbAt W ks (hS ++ F) T g w' → K v w') :
    (std Try.prog).calls 22 #[.map (some bn)] w fun v w => (std Try.prog).calls 21 #[v] w K := by
  obtain ⟨bn', bw, on, ow, c0, c1, hn1, hn2, -⟩ := h.look
  have : bn' = bn := by simpa using c0.symm.trans hc
  subst this
  refine st_call (KeysS_spec w bn') ?_
  rintro _ w1 ⟨rfl, rfl⟩
  have hmx : (1000000 : Nat) ≤ maxLen := by decide
  refine st_call (SortedS_spec (w := w) hn1 hn2 hok.keys (by have := hok.len; omega) (fun p hp => by have := hok.short p hp; omega)) ?_
  rintro v w2 ⟨hS, hr, hO, hU, hn⟩
  exact hk v hS w2 hr (h.addH hU hO hn)
theorem sortS_perm (l : List (List UInt8)) : (sortS l).Perm l := List.mergeSort_perm l _
theorem strV_one (l : List (List UInt8)) : ∀ y ∈ l.map strV, y.oneCell' = true := by
  intro y hy; obtain ⟨s, -, rfl⟩ := List.mem_map.1 hy; rfl
/-- the lookup of a name -/
theorem TbAt.lookName {s : List UInt8} {bn : Nat} {q : Nat × Nm} (h : TbAt W ks F T g w) (hc : w.cell? ⟨g, 0, none⟩ = some (.map (some bn))) (hq : aGet T.names s = some q) : (sLookup 61 (.map (some bn)) (strV s) false).run Try.prog w = .ok (.value (.pointer (some ⟨q.1, 0, none⟩))) w := by
  obtain ⟨bn', bw, on, ow, c0, c1, hn1, hn2, -⟩ := h.look
  have : bn' = bn := by simpa using c0.symm.trans hc
  subst this
  rw [run_lookup (ve := ptV) (z := .pointer none) uNames strV_ok ze62 hn1 hn2 s false, if_neg Bool.false_ne_true, names_get, hq]
def rowsB (l : List (List UInt8)) (i B : Nat) : Nat := (l.length - i) * (2 * B)
theorem goneL_cons {txn : Int} {all : Bool} {s : List UInt8} {l : List (List UInt8)} {T : Tb} {q : Nat × Nm} (h : aGet T.names s = some q) : goneL txn all (s :: l) T = ((goneL txn all l (goneS T s q txn all).1).1, (goneS T s q txn all).2 ++ (goneL txn all l (goneS T s q txn all).1).2) := by
  conv => lhs; unfold goneL
  rw [h]
def GonePost (W : World) (ks : List Nat) (F : List (Nat × Obj)) (gs : List Gr) (T : Tb) (g : Nat) (u : Value) (w' : World) : Prop :=
  ∃ hl, RowH 76 3 u gs.length (grsV gs) hl ∧ TbAt W ks (hl ++ F) T g w' ∧ ∀ p ∈ hl, p.1 ∈ ks ∨ W.heap.size ≤ p.1
theorem gone_spec {B : Nat} (h : TbAt W ks F T g w) (hok : okT T B) (hB : B ≤ 500) (txn : Int) (all : Bool) :
    CallsR Try.prog 27 #[.pointer (some ⟨g, 0, none⟩), .int .i64 txn, .bool all] w fun u w' => GonePost W ks F (goneT T txn all).2 (goneT T txn all).1 g u w' := by
  apply lock_Table_gone_sound
  unfold lock_Table_gone_x
  simp (disch := first | assumption | omega) only [PX, BX]
  refine st_talloc (z := .slice none 0 0) ze36 h ?_
  intro bl w1 h1 hbl
  have h1 : TbAt W ks ((bl, .cells #[.slice none 0 0] 36 (0, 0)) :: F) T g w1 := h1
  obtain ⟨bn, bw, on, ow, d0, d1, -⟩ := h1.look
  simp (disch := first | assumption | omega) only [PX, LX, add_mk, Nat.reduceAdd]
  refine st_waitsDel h1 d1 txn ?_
  intro w2 h2
  obtain ⟨bn, bw, on, ow, d0, d1, -⟩ := h2.look
  simp (disch := first | assumption | omega) only [PX, LX, add_mk, Nat.reduceAdd]
  have hok2 : okT ⟨T.names, aDel T.waits txn⟩ B := ⟨hok.keys, hok.wkeys.del, hok.len, hok.short, hok.nm⟩
  refine st_sorted h2 hok2 (by omega) d0 ?_
  intro v hS w3 hrS h3
  have hgo : goneT T txn all = goneL txn all (sortS (T.names.map (·.1))) ⟨T.names, aDel T.waits txn⟩ := rfl
  have hmem : ∀ s ∈ sortS (T.names.map (·.1)), ∃ q, aGet T.names s = some q := fun s hs => Option.isSome_iff_exists.1 (aGet_keys.2 ((sortS_perm _).mem_iff.1 hs))
  have hnd : (sortS (T.names.map (·.1))).Nodup := (sortS_perm _).nodup_iff.2 hok.keys
  have hll : (sortS (T.names.map (·.1))).length ≤ B := by rw [(sortS_perm _).length_eq, List.length_map]; exact hok.len
  generalize sortS (T.names.map (·.1)) = l at hrS hgo hmem hnd hll
  obtain ⟨A, n1, rfl⟩ := RowH.sl' hrS
  simp (disch := first | assumption | omega) only [PX, BX]
  have hG0 : GrAt W ks (hS ++ F) [] bl ⟨T.names, aDel T.waits txn⟩ g w3 := ⟨_, [], RowH.nil_ _ _, h3.permF List.perm_middle, (fun p hp => by cases hp), hbl⟩
  refine st_loop (fun vs w' => ∃ (i : Nat) (gs : List Gr) (Ti : Tb), i ≤ l.length ∧ vs.getD 0 undef = .int .i64 i ∧ GrAt W ks (hS ++ F) gs bl Ti g w' ∧ okT Ti B ∧ gs.length ≤ i * (2 * B) ∧ (∀ s ∈ l.drop i, ∃ q, aGet Ti.names s = some q) ∧
      goneT T txn all = ((goneL txn all (l.drop i) Ti).1, gs ++ (goneL txn all (l.drop i) Ti).2)) (fun vs _ => l.length - (intOf (vs.getD 0 undef)).toNat) ⟨0, [], _, Nat.zero_le _, rfl, hG0, hok2, Nat.zero_le _, by rw [List.drop_zero]; exact hmem, by rw [List.drop_zero, hgo]; rfl⟩ ?_
  rintro dv vs w4 - ⟨i, gs, Ti, hi, e0, hG, hokT, hgl, hin, hrun⟩
  simp (disch := first | assumption | omega) only [e0, PX, BX]
  refine ⟨fun hlt => ?_, fun hge => ?_⟩
  rotate_left
  · obtain rfl : i = l.length := by omega
    obtain ⟨v, hl, hr, hT, hm2, -⟩ := hG
    rw [List.drop_length] at hrun
    have hrun : goneT T txn all = (Ti, gs) := by rw [hrun]; unfold goneL; rw [List.append_nil]
    unfold lock_Table_gone_k1
    obtain ⟨A2, n2, rfl⟩ := RowH.sl' hr
    have hc : w4.cell? ⟨bl, 0, none⟩ = some (.slice A2 gs.length n2) := (cell_at (hT.at_ (List.mem_cons_self ..))).trans rfl
    simp (disch := first | assumption | omega) only [PX, LX, add_mk, Nat.reduceAdd]
    rw [hrun]
    refine ⟨hl, hr, hT.weak (.cons _ (List.Sublist.append_left (List.sublist_append_right _ _) _)), hm2⟩
  have hi' : i < l.length := by omega
  obtain ⟨v, hl, hr, hT, hm2, -⟩ := hG
  have hOS : Owns w4 (hS ++ ((bl, .cells #[v] 36 (0, 0)) :: (hl ++ F))) := hT.owns.perm (by
    classical
    refine List.perm_iff_count.2 fun y => ?_
    simp only [List.count_cons, List.count_append]
    omega)
  obtain ⟨A', n', hAn, -, -, hx⟩ := hrS.rd hOS
  injection hAn with q1 q2 q3
  subst q1 q3
  obtain ⟨a, rfl, ha⟩ := hx i (strV l[i]) (by simp [hi'])
  simp (disch := first | assumption | omega) only [PX, LX, Nat.mul_one]
  obtain ⟨⟨gn, n⟩, hq⟩ := hin l[i] (by rw [List.drop_eq_getElem_cons hi']; exact List.mem_cons_self ..)
  have hcons := hrun
  rw [List.drop_eq_getElem_cons hi', goneL_cons hq] at hcons
  obtain ⟨bn, bw, on, ow, d0, d1, -⟩ := hT.look
  simp (disch := first | assumption | omega) only [PX, LX, add_mk, Nat.reduceAdd]
  rw [step_run (hT.lookName d0 hq)]
  have hnm : okN n B := hokT.nm _ _ hq
  have hsm : smallN n := ⟨by have := hnm.1; omega, by have := hnm.2.1; omega⟩
  refine st_call (hT.leave hq hsm txn) ?_
  rintro _ w5 ⟨rfl, h5⟩
  have hq5 := get_putN Ti l[i] (gn, leaveN n txn)
  obtain ⟨bh, oh, vt, vr, c0, c1, c2, hg, hm, hmap, r1, r2⟩ := h5.name hq5
  simp (disch := first | assumption | omega) only [PX, LX, add_mk, Nat.reduceAdd]
  rw [step_run (run_lookup uHeld keyI_ok ze28 hm hmap txn true), if_pos rfl, modes_get]
  simp (disch := first | assumption | omega) only [PX, LX, add_mk, Nat.reduceAdd]
  have hsub := goneS_ok txn all hokT hq
  have hilt : i * (2 * B) + 2 * B ≤ 1000000 := by
    have h1 : (i + 1) * (2 * B) ≤ 500 * (2 * 500) := Nat.mul_le_mul (by omega) (by omega)
    rw [Nat.succ_mul] at h1
    omega
  -- behind this name
  have again : ∀ {w' : World}, GrAt W ks (hS ++ F) (gs ++ (goneS Ti l[i] (gn, n) txn all).2) bl (goneS Ti l[i] (gn, n) txn all).1 g w' → lock_Table_gone_k2 (std Try.prog) vs (fun vs' w' => (∃ (i : Nat) (gs : List Gr) (Ti : Tb), i ≤ l.length ∧ vs'.getD 0 undef = .int .i64 i ∧ GrAt W ks (hS ++ F) gs bl Ti g w' ∧ okT Ti B ∧ gs.length ≤ i * (2 * B) ∧ (∀ s ∈ l.drop i, ∃ q, aGet Ti.names s = some q) ∧
      goneT T txn all = ((goneL txn all (l.drop i) Ti).1, gs ++ (goneL txn all (l.drop i) Ti).2)) ∧ l.length - (intOf (vs'.getD 0 undef)).toNat < l.length - (intOf (Value.int .i64 i)).toNat) w' fun u w' => GonePost W ks F (goneT T txn all).2 (goneT T txn all).1 g u w' := fun {w'} hG' => by
    unfold lock_Table_gone_k2
    simp (disch := omega) only [e0, PX, w64]
    refine ⟨⟨i + 1, _, _, by omega, rfl, hG', hsub.1, ?_, fun s hs => ?_, ?_⟩, ?_⟩
    · rw [List.length_append, Nat.succ_mul]; have := hsub.2.1; omega
    · have hne : s ≠ l[i] := fun he => by
        subst he
        have := hnd
        rw [← List.take_append_drop i l, List.drop_eq_getElem_cons hi', List.nodup_append, List.nodup_cons] at this
        exact this.2.1.1 hs
      rw [hsub.2.2 s hne]
      exact hin s (by rw [List.drop_eq_getElem_cons hi']; exact List.mem_cons_of_mem _ hs)
    · rw [hcons, List.append_assoc]
    · simp only [List.getD_cons_zero, intOf]; omega
  have k3 : ∀ {w' : World} (left : Bool), left = leftB n txn → ((aGet n.held txn).isSome && all) = false → TbAt W ks ((bl, .cells #[v] 36 (0, 0)) :: (hl ++ (hS ++ F))) (putN Ti l[i] (gn, leaveN n txn)) g w' →
      lock_Table_gone_k3 (std Try.prog) (.pointer (some ⟨g, 0, none⟩)) (.pointer (some ⟨bl, 0, none⟩)) vs (fun vs' w' => (∃ (i : Nat) (gs : List Gr) (Ti : Tb), i ≤ l.length ∧ vs'.getD 0 undef = .int .i64 i ∧ GrAt W ks (hS ++ F) gs bl Ti g w' ∧ okT Ti B ∧ gs.length ≤ i * (2 * B) ∧ (∀ s ∈ l.drop i, ∃ q, aGet Ti.names s = some q) ∧
      goneT T txn all = ((goneL txn all (l.drop i) Ti).1, gs ++ (goneL txn all (l.drop i) Ti).2)) ∧ l.length - (intOf (vs'.getD 0 undef)).toNat < l.length - (intOf (Value.int .i64 i)).toNat) (strV l[i]) (.bool left) w' fun u w' => GonePost W ks F (goneT T txn all).2 (goneT T txn all).1 g u w' := fun {w'} left hle hno hh => by
    unfold lock_Table_gone_k3
    rw [bool_var]
    refine ⟨fun hl1 => ?_, fun hl1 => ?_⟩
    · rw [step_run (mk_told _ _)]
      refine st_call (pass_spec (⟨v, hl, hr, hh, hm2, hbl⟩ : GrAt W ks (hS ++ F) gs bl (putN Ti l[i] (gn, leaveN n txn)) g w') hq5 ⟨Nat.le_trans (outN_le _ _) hsm.1, Nat.le_trans (outN_le _ _) hsm.2⟩ ?_) ?_
      · show gs.length + ((outN n.turns txn).length + (outN n.row txn).length) ≤ 1000000
        have := outN_le n.turns txn
        have := outN_le n.row txn
        have := hnm.1
        have := hnm.2.1
        omega
      · rintro _ w6 ⟨rfl, h6⟩
        refine again ?_
        unfold goneS
        rw [if_neg (by rw [hno]; exact Bool.false_ne_true), if_pos (by rw [← hle]; exact hl1)]
        exact h6
    · refine again ?_
      unfold goneS
      rw [if_neg (by rw [hno]; exact Bool.false_ne_true), if_neg (by rw [← hle, hl1]; exact Bool.false_ne_true), List.append_nil]
      exact ⟨v, hl, hr, hh, hm2, hbl⟩
  rw [bool_var]
  refine ⟨fun his => ?_, fun his => ?_⟩
  · rw [bool_var]
    refine ⟨fun hall => ?_, fun hall => ?_⟩
    · refine h5.heldDel hq5 c0 txn ?_
      intro w6 h6
      rw [putN_putN] at h6
      rw [step_run (mk_told _ _)]
      refine st_call (pass_spec (⟨v, hl, hr, h6, hm2, hbl⟩ : GrAt W ks (hS ++ F) gs bl (putN Ti l[i] (gn, { leaveN n txn with held := aDel (leaveN n txn).held txn })) g w6) (get_putN _ _ _) ⟨Nat.le_trans (outN_le _ _) hsm.1, Nat.le_trans (outN_le _ _) hsm.2⟩ ?_) ?_
      · show gs.length + ((outN n.turns txn).length + (outN n.row txn).length) ≤ 1000000
        have := outN_le n.turns txn
        have := outN_le n.row txn
        have := hnm.1
        have := hnm.2.1
        omega
      · rintro _ w7 ⟨rfl, h7⟩
        refine again ?_
        unfold goneS
        rw [if_pos (by rw [hall, Bool.and_true]; exact his)]
        exact h7
    · exact k3 _ rfl (by rw [hall, Bool.and_false]) h5
  · exact k3 _ rfl (by rw [show (aGet n.held txn).isSome = false from his, Bool.false_and]) h5
end
end Go.Proofs.Ytakifgecgmdjcaa
