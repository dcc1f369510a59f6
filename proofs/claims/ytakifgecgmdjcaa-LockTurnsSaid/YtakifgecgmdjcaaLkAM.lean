/- Locks: has, At, and rows beside a table. -/
import Derived.Test.YtakifgecgmdjcaaLkAL
namespace Go.Proofs.Ytakifgecgmdjcaa
open Go Xf Go.RowKit
set_option linter.unusedVariables false
set_option linter.unusedSimpArgs false
set_option maxRecDepth 100000

section
variable {W w w' : World} {ks : List Nat} {F : List (Nat × Obj)} {g : Nat} {T : Tb} {K : Value → World → Prop}
theorem has_spec {B : Nat} (h : TbAt W ks F T g w) (hok : okT T B) (hB5 : B ≤ 500) (x : Int) (s : List UInt8) :
    CallsR Try.prog 17 #[.pointer (some ⟨g, 0, none⟩), .int .i64 x, strV s] w fun u w' => u = .bool (hasT T x s).isSome ∧ TbAt W ks F T g w' := by
  apply flotillalaw13_has_sound
  unfold flotillalaw13_has_x flotillalaw13_has_k1
  refine st_call (Held_spec h hok hB5 x) ?_
  rintro v w1 ⟨hl, hr, hT, hm⟩
  have hlen := heldT_len hok x
  have hmem : ∀ p, p ∈ heldT T x ↔ hasT T x p.1 = some p.2 := fun p => mem_heldT
  have hR := hT.rdHe hr (fun p hp => List.mem_append_left _ hp) (by omega)
  have hTF := hT.weak (List.sublist_append_right hl F)
  clear hr
  generalize heldT T x = l at hR hlen hmem
  obtain ⟨A, c, rfl⟩ := he_len hR
  refine st_loop (fun vs w' => ∃ i : Nat, i ≤ l.length ∧ vs.getD 1 undef = .int .i64 i ∧ w' = w1 ∧ ∀ p ∈ l.take i, p.1 ≠ s) (fun vs _ => l.length - (intOf (vs.getD 1 undef)).toNat) ⟨0, Nat.zero_le _, rfl, rfl, by simp⟩ ?_
  rintro dv vs w2 - ⟨i, hi, e1, rfl, hno⟩
  simp (disch := first | assumption | omega) only [e1, PX, BX]
  refine ⟨fun hlt => ?_, fun hge => ?_⟩
  rotate_left
  · obtain rfl : i = l.length := by omega
    rw [List.take_length] at hno
    have : (hasT T x s).isSome = false := by
      cases hh : hasT T x s with
      | none => rfl
      | some m => exact absurd rfl (hno (s, m) ((hmem (s, m)).2 hh))
    rw [this]
    exact ⟨rfl, hTF⟩
  have hi' : i < l.length := by omega
  obtain ⟨a, c', he, hc⟩ := he_at hR hi'
  injection he with q1 q2 q3
  subst q1
  have k0 := (hc w2 (Upd.refl w2 [])).1
  simp (disch := first | assumption | omega) only [PX, BX, LX, add_add', mk_inj]
  refine ⟨fun heq => ?_, fun hne => ?_⟩
  · have : hasT T x s = some l[i].2 := by rw [← heq]; exact (hmem _).1 (List.getElem_mem hi')
    rw [this]
    exact ⟨rfl, hTF⟩
  · simp (disch := omega) only [PX, w64]
    refine ⟨⟨i + 1, by omega, rfl, trivial, fun p hp => ?_⟩, ?_⟩
    · rw [List.take_succ_eq_append_getElem hi'] at hp
      rcases List.mem_append.1 hp with hp | hp
      · exact hno p hp
      · rw [List.mem_singleton] at hp; subst hp; exact hne
    · simp only [List.getD_cons_succ, List.getD_cons_zero, intOf]; omega
theorem ed_at {v : Value} {l : List Ed} {i : Nat} (hr : RdS w edV 2 v l) (hi : i < l.length) : ∃ a c, v = .slice (some a) l.length c ∧ ∀ w', Upd w w' [] → (loadVar 53 (a.add (i * 2))).run Try.prog w' = .ok (.agg (edV l[i]).toArray) w' := by
  obtain ⟨A, c, rfl, hm, hrd⟩ := hr
  obtain ⟨a, rfl, hx⟩ := Rd.row (f := edV) (k := 2) (fun _ => rfl) (by omega) hrd hi
  have e : ((i : Nat) : Int).toNat = i := by omega
  rw [e] at hx
  exact ⟨a, c, rfl, fun w' hU => run_loadVarN (cs := edV l[i]) ag53 (by rw [sz53]; rfl) fun j v hj => by rw [add_add']; exact hx w' hU j v hj⟩
theorem RowH.ed {v : Value} {l : List Ed} {h : List (Nat × Obj)} (hr : RowH 53 2 v l.length (edsV l) h) (hO : Owns w (h ++ F)) (hl : l.length ≤ 1000000000) : RdS w edV 2 v l := by
  obtain ⟨A, c, rfl⟩ := RowH.sl' hr
  exact ⟨A, c, rfl, Nat.le_trans hl (by decide), hr.rd hO⟩
theorem At_spec {v : Value} {l : List Ed} (hr : RdS w edV 2 v l) (hl : l.length ≤ 1000000000) (e : Ed) (he : e ∈ l) :
    CallsR Try.prog 19 #[v, .agg (edV e).toArray] w fun u w' => (∃ i : Nat, u = .int .i64 i) ∧ Upd w w' [] := by
  apply flotillaref12_At_sound
  unfold flotillaref12_At_x flotillaref12_At_k1
  refine st_box (Upd.refl w []) (Owns.nil w) ?_
  intro b w1 hU1 hO1 hb
  have hO1 : Owns w1 [(b, .cells (edV e).toArray 53 (0, 0))] := hO1
  obtain ⟨A, c, rfl, -, -⟩ := id hr
  refine st_loop (fun vs w' => ∃ i : Nat, i ≤ l.length ∧ vs.getD 1 undef = .int .i64 i ∧ SU w [(b, .cells (edV e).toArray 53 (0, 0))] w' ∧ e ∉ l.take i) (fun vs _ => l.length - (intOf (vs.getD 1 undef)).toNat) ⟨0, Nat.zero_le _, rfl, ⟨hU1, hO1⟩, by simp⟩ ?_
  rintro dv vs w2 - ⟨i, hi, e1, hS, hno⟩
  simp (disch := first | assumption | omega) only [e1, PX, BX]
  refine ⟨fun hlt => ?_, fun hge => ?_⟩
  rotate_left
  · obtain rfl : i = l.length := by omega
    rw [List.take_length] at hno
    exact absurd he hno
  have hi' : i < l.length := by omega
  obtain ⟨a, c', hq, hc⟩ := ed_at hr hi'
  injection hq with q1 q2 q3
  subst q1
  have hSd : SU w [(b, .cells (edV e).toArray 53 (0, 0))] w2.drew := SU.drew hS.1 hS.2
  have hne : ∃ w', SU w [(b, .cells (edV e).toArray 53 (0, 0))] w' := ⟨_, hSd⟩
  refine st_draw (SU w [(b, .cells (edV e).toArray 53 (0, 0))]) hSd ?_
  simp (disch := first | exact hne | assumption | omega) only [SX]
  rw [stepS_run hne fun w' hs => run_sLoad (hc w' hs.1), stepS_run hne fun w' hs => run_sLoad (run_loadVarN ag53 (cs := edV e) (by rw [sz53]; rfl) (cells_read (cs := (edV e).toArray) (hs.2.at_ 0 rfl))), stepS_run hne fun w' hs => eq_ed _ _ _ _ _, bool_dec]
  refine ⟨fun heq => ?_, fun hneq => ?_⟩
  · exact ⟨⟨i, rfl⟩, hSd.1⟩
  · simp (disch := omega) only [e1, PX, w64]
    refine ⟨⟨i + 1, by omega, rfl, hSd, fun hp => ?_⟩, ?_⟩
    · rw [List.take_succ_eq_append_getElem hi'] at hp
      rcases List.mem_append.1 hp with hp | hp
      · exact hno hp
      · rw [List.mem_singleton] at hp; exact hneq hp.symm
    · simp only [List.getD_cons_succ, List.getD_cons_zero, intOf]; omega
/-- one number onto a row beside a table -/
theorem TbAt.push {v : Value} {l : List Int} {hr : List (Nat × Obj)} (h : TbAt W ks (hr ++ F) T g w) (hrow : RowH 3 1 v l.length (intsV .i64 l) hr) (hm : ∀ p ∈ hr, p.1 ∈ ks ∨ W.heap.size ≤ p.1) (hl : l.length ≤ 1000000) (x : Int)
    (hk : ∀ v' hr' w', RowH 3 1 v' (l ++ [x]).length (intsV .i64 (l ++ [x])) hr' → TbAt W ks (hr' ++ F) T g w' → (∀ p ∈ hr', p.1 ∈ ks ∨ W.heap.size ≤ p.1) → K v' w') :
    (std Try.prog).step (sBuildSlice 42 1 [(0, .int .i64 x)]) w fun u w => (std Try.prog).step (sBuiltin .append #[42, 42] 42 [false, false] [v, u]) w K := by
  obtain ⟨hU, hh, hT, hO, hmine⟩ := h
  refine st_newRow (fun w => row_int x w) hU hO ?_
  intro gr w1 hU1 hO1 hgr
  obtain ⟨inf, e1, e2, e3, e4⟩ := info_int
  have hP : Owns w1 (hr ++ ((gr, .cells #[.int .i64 x] 3 (0, 0)) :: (hh ++ F))) := hO1.perm (by
    classical
    refine List.perm_iff_count.2 fun y => ?_
    simp only [List.count_cons, List.count_append]
    omega)
  have hrd : Rd w1 1 (.slice (some ⟨gr, 0, none⟩) 1 1) 1 (intsV .i64 [x]) := ⟨_, 1, rfl, Nat.le_refl _, rfl, fun j u hu => ⟨_, rfl, cells_read (cs := #[.int .i64 x]) (hO1.at_ 0 rfl) j u hu⟩⟩
  have hmx : (1000001 : Nat) ≤ maxLen := by decide
  refine st_append u42 e1 e2 e3 e4 rfl (by omega) hrow hP hU1 hm hrd (intsV_one _ _) (by omega) (by omega) ?_
  intro v2 w2 hr2 hrow2 hO2 hU2 hm2
  have hrow2 : RowH 3 1 v2 (l ++ [x]).length (intsV .i64 (l ++ [x])) hr2 := by
    rw [List.length_append, List.length_singleton]
    have : intsV .i64 (l ++ [x]) = intsV .i64 l ++ intsV .i64 [x] := by simp [intsV]
    rw [this]; exact hrow2
  refine hk v2 hr2 w2 hrow2 ⟨hU2, hh, hT, ?_, hmine⟩ hm2
  refine (hO2.sub (List.Sublist.append_left (List.sublist_cons_self ..) _)).perm ?_
  classical
  refine List.perm_iff_count.2 fun y => ?_
  simp only [List.count_append]
  omega
end
/-- who asks behind others waits for each of them -/
theorem turns_plain {T : Tb} {B : Nat} (h : Fine T B) (new : Nat) (txn : Int) (v : Wt) (he : (askT T new txn v).2.2 = 0) (hno : hasT T txn v.name = none) {y : Int} {wy : Wt} (hy : aGet T.waits y = some wy) (hyn : wy.name = v.name) :
    (askT T new txn v).2.1 = false ∧ ∀ y wy, aGet T.waits y = some wy → wy.name = v.name → EdgeT (askT T new txn v).1 (txn, y) := by
  obtain ⟨q, h1, h2, -⟩ := h.good.wait hy
  rw [hyn] at h1
  have hh : aGet q.2.held txn = none := by unfold hasT at hno; rw [h1] at hno; exact hno
  have hc : covB q.2 txn v.mode = false := by unfold covB; rw [hh]
  have hg : getsB q.2 txn v.mode = false := by
    unfold getsB
    rw [hh]
    have : ¬ (q.2.turns.length + q.2.row.length = 0) := fun h0 => by
      have : rowsN q.2 = [] := List.eq_nil_of_length_eq_zero (by unfold rowsN; rw [List.length_append]; exact h0)
      rw [this] at h2; cases h2
    rw [decide_eq_false this]; simp
  unfold askT at he ⊢
  by_cases hok : argsOk txn v
  · rw [if_pos hok] at he ⊢
    by_cases hw : (aGet T.waits txn).isSome = true
    · rw [if_pos hw] at he; exact absurd he (by show ¬ ((10 : Int) = 0); decide)
    · rw [if_neg hw]
      have ea : askAt T q txn v = (⟨aSet T.names v.name (q.1, queueN q.2 txn), aSet T.waits txn v⟩, false) := by
        unfold askAt
        rw [if_neg (by rw [hc]; exact Bool.false_ne_true), if_neg (by rw [hg]; exact Bool.false_ne_true)]
      rw [h1, Option.getD_some]
      show (askAt T q txn v).2 = false ∧ ∀ y wy, aGet T.waits y = some wy → wy.name = v.name → EdgeT (askAt T q txn v).1 (txn, y)
      rw [ea]
      refine ⟨rfl, fun y wy hy hyn => ?_⟩
      obtain ⟨q', g1, g2, -⟩ := h.good.wait hy
      rw [hyn, h1] at g1
      injection g1 with g1
      subst g1
      have hqr : rowsN (queueN q.2 txn) = rowsN q.2 ++ [txn] := by
        unfold queueN rowsN
        rw [if_neg (by rw [hh]; exact Bool.false_ne_true)]
        simp
      refine ⟨(v.name, (q.1, queueN q.2 txn)), aGet_mem (by rw [aGet_aSet, if_pos rfl]), (rowsN q.2).length, ?_, .inr ?_⟩
      · rw [hqr]; simp
      · rw [hqr, List.take_append_of_le_length (Nat.le_refl _), List.take_length]; exact g2
  · rw [if_neg hok] at he; exact absurd he (by show ¬ ((1 : Int) = 0); decide)
end Go.Proofs.Ytakifgecgmdjcaa
