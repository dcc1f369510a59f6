/- Locks: pass. -/
import Derived.Test.YtakifgecgmdjcaaLkJ
namespace Go.Proofs.Ytakifgecgmdjcaa
open Go Xf Go.RowKit
set_option linter.unusedVariables false
set_option linter.unusedSimpArgs false
set_option maxRecDepth 100000

section
variable {W w w' : World} {ks : List Nat} {F G : List (Nat × Obj)} {T : Tb} {g : Nat} {K : Value → World → Prop}
theorem putN_putN (T : Tb) (s : List UInt8) (q q' : Nat × Nm) : putN (putN T s q) s q' = putN T s q' := by
  unfold putN; simp only [aSet_aSet]
theorem get_putN (T : Tb) (s : List UInt8) (q : Nat × Nm) : aGet (putN T s q).names s = some q := by
  rw [putN, aGet_aSet, if_pos rfl]
theorem passN_go {k : Nat} {n : Nm} {ws : List (Int × Wt)} (hx : firstN n ≠ 0) (hgo : goesB n (firstN n) (wouldN n (firstN n) ((aGet ws (firstN n)).getD ⟨[], 0⟩).mode) = true) :
    passN (k + 1) n ws = (let r := passN k { leaveN n (firstN n) with held := aSet n.held (firstN n) (wouldN n (firstN n) ((aGet ws (firstN n)).getD ⟨[], 0⟩).mode) } (aDel ws (firstN n)); (r.1, r.2.1, (firstN n, (aGet ws (firstN n)).getD ⟨[], 0⟩) :: r.2.2)) := by
  conv => lhs; unfold passN
  rw [if_neg hx, if_pos hgo]
/-- the end of pass -/
theorem pass_k1 {gs : List Gr} {bl gn : Nat} {s : List UInt8} {n : Nm} {told : Value} (h : GrAt W ks F gs bl T g w) (hn : aGet T.names s = some (gn, n)) :
    lock_Table_pass_k1 (std Try.prog) (.pointer (some ⟨g, 0, none⟩)) (strV s) (.pointer (some ⟨gn, 0, none⟩)) w fun u w' => u = .tuple #[] ∧ GrAt W ks F gs bl ⟨if n.held.length = 0 then aDel T.names s else T.names, T.waits⟩ g w' := by
  obtain ⟨v, hl, hr, hT, hm2, hbl⟩ := h
  unfold lock_Table_pass_k1
  obtain ⟨bh, oh, vt, vr, c0, c1, c2, hg, hm, hmap, r1, r2⟩ := hT.name hn
  simp (disch := first | assumption | omega) only [PX, LX, add_mk, Nat.reduceAdd]
  rw [st_mapLen uHeld hm hmap]
  simp (disch := first | assumption | omega) only [PX, BX]
  refine ⟨fun h0 => ?_, fun h0 => ?_⟩
  · rw [if_pos (by omega)]
    obtain ⟨bn, bw, on, ow, d0, d1, -⟩ := hT.look
    simp (disch := first | assumption | omega) only [PX, LX, add_mk, Nat.reduceAdd]
    refine st_namesDel hT d0 hn ?_
    intro w1 h1
    exact ⟨trivial, v, hl, hr, h1, hm2, hbl⟩
  · rw [if_neg (by omega)]
    exact ⟨trivial, v, hl, hr, hT, hm2, hbl⟩
theorem pass_spec {gs : List Gr} {bl gn : Nat} {s : List UInt8} {n0 : Nm} (h : GrAt W ks F gs bl T g w) (hn : aGet T.names s = some (gn, n0)) (hsm : smallN n0) (hgs : gs.length + (n0.turns.length + n0.row.length) ≤ 1000000) :
    CallsR Try.prog 44 #[.pointer (some ⟨g, 0, none⟩), strV s, toldV bl] w fun u w' => u = .tuple #[] ∧ GrAt W ks F (gs ++ (passT T s (gn, n0)).2) bl (passT T s (gn, n0)).1 g w' := by
  apply lock_Table_pass_sound
  unfold lock_Table_pass_x
  have h' := h
  obtain ⟨v, hl, hr, hT, hm2, hbl⟩ := h
  obtain ⟨bn, bw, on, ow, d0, d1, hn1, hn2, -⟩ := hT.look
  simp (disch := first | assumption | omega) only [PX, LX, add_mk, Nat.reduceAdd]
  rw [step_run (run_lookup (ve := ptV) (z := .pointer none) uNames strV_ok ze62 hn1 hn2 s false), if_neg Bool.false_ne_true, names_get, hn]
  refine st_call (hT.first hn) ?_
  rintro _ w1 ⟨rfl, rfl⟩
  let L : Nat := n0.turns.length + n0.row.length
  let I : Nat → List Value → World → Prop := fun k vs w' => ∃ n ws pre, GrAt W ks F (gs ++ pre) bl ⟨aSet T.names s (gn, n), ws⟩ g w' ∧ vs.getD 0 undef = .int .i64 (firstN n) ∧ n.turns.length + n.row.length ≤ k ∧ pre.length + k ≤ L ∧ smallN n ∧
    passN L n0 T.waits = ((passN k n ws).1, (passN k n ws).2.1, pre ++ (passN k n ws).2.2)
  have hI0 : I L [.int .i64 (firstN n0)] w1 := ⟨n0, T.waits, [], by rw [List.append_nil, aSet_same hn]; exact h', rfl, Nat.le_refl _, by simp, hsm, rfl⟩
  have fin : ∀ {w' : World} {n : Nm} {ws : List (Int × Wt)} {pre : List Gr}, GrAt W ks F (gs ++ pre) bl ⟨aSet T.names s (gn, n), ws⟩ g w' → passN L n0 T.waits = (n, ws, pre) →
      lock_Table_pass_k1 (std Try.prog) (.pointer (some ⟨g, 0, none⟩)) (strV s) (.pointer (some ⟨gn, 0, none⟩)) w' fun u w' => u = .tuple #[] ∧ GrAt W ks F (gs ++ (passT T s (gn, n0)).2) bl (passT T s (gn, n0)).1 g w' := fun {w'} {n} {ws} {pre} hh hp => by
    have := pass_k1 (told := undef) hh (s := s) (gn := gn) (n := n) (by rw [aGet_aSet, if_pos rfl])
    have e : passT T s (gn, n0) = (⟨if n.held.length = 0 then aDel (aSet T.names s (gn, n)) s else aSet T.names s (gn, n), ws⟩, pre) := by
      unfold passT
      show (Tb.mk (if (passN L n0 T.waits).1.held.length = 0 then aDel T.names s else aSet T.names s (gn, (passN L n0 T.waits).1)) (passN L n0 T.waits).2.1, (passN L n0 T.waits).2.2) = _
      rw [hp]
      have : aDel (aSet T.names s (gn, n)) s = aDel T.names s := by
        obtain ⟨j, hj⟩ := aGet_some hn
        obtain ⟨A, B, q1, q2, q3⟩ := aFind_split hj
        have : aGet (aSet T.names s (gn, n)) s = some (gn, n) := by rw [aGet_aSet, if_pos rfl]
        unfold aDel at q3 ⊢
        rw [hj] at q3
        have hjs : aFind (aSet T.names s (gn, n)) s 0 = some (j, (gn, n)) := by
          have h1 : (aSet T.names s (gn, n)) = T.names.set j (s, (gn, n)) := by unfold aSet; rw [hj]
          have gen : ∀ (l : List (List UInt8 × (Nat × Nm))) (i j : Nat) (q : Nat × Nm), aFind l s i = some (i + j, q) → aFind (l.set j (s, (gn, n))) s i = some (i + j, (gn, n)) := by
            intro l
            induction l with
            | nil => intro i j q h; cases h
            | cons p l ih =>
              intro i j q h
              cases j with
              | zero =>
                rw [List.set_cons_zero]
                unfold aFind
                rw [if_pos rfl]; rfl
              | succ j =>
                rw [List.set_cons_succ]
                unfold aFind at h ⊢
                by_cases hs : s = p.1
                · rw [if_pos hs] at h
                  simp at h
                · rw [if_neg hs] at h ⊢
                  have := ih (i + 1) j q (by rw [h]; congr 2; omega)
                  rw [this]; congr 2; omega
          rw [h1]
          have := gen T.names 0 j (gn, n0) (by rw [hj]; congr 2; omega)
          rw [this]; congr 2; omega
        rw [hjs, hj]
        simp only
        have h1 : (aSet T.names s (gn, n)) = T.names.set j (s, (gn, n)) := by unfold aSet; rw [hj]
        rw [h1]
        exact List.eraseIdx_set_eq ..
      rw [this]
    rw [e]; exact this
  refine st_loop (fun vs w' => ∃ k, I k vs w') (minK I) ⟨L, hI0⟩ ?_
  rintro dv vs w2 - hex
  obtain ⟨⟨n, ws, pre, hG, e0, hk, hpk, hsn, hp⟩, -⟩ := minK_spec hex
  generalize minK I vs w2 = k at hk hpk hp
  have hnn : aGet (Tb.mk (aSet T.names s (gn, n)) ws).names s = some (gn, n) := by show aGet (aSet T.names s (gn, n)) s = _; rw [aGet_aSet, if_pos rfl]
  obtain ⟨v, hl, hr, hT, hm2, hbl⟩ := hG
  simp (disch := first | assumption | omega) only [e0, PX, BX]
  refine ⟨fun hx => ?_, fun hx => ?_⟩
  rotate_left
  · have h0 : firstN n = 0 := by omega
    refine fin ⟨v, hl, hr, hT, hm2, hbl⟩ ?_
    rw [hp]
    cases k with
    | zero => simp [passN]
    | succ k => simp [passN, h0]
  have hlt := leaveN_lt hx
  obtain ⟨k, rfl⟩ : ∃ k', k = k' + 1 := ⟨k - 1, by omega⟩
  obtain ⟨bn, bw, on, ow, d0, d1, hn1, hn2, hw1, hw2, -⟩ := hT.look
  simp (disch := first | assumption | omega) only [PX, LX, add_mk, Nat.reduceAdd]
  rw [step_run (run_lookup uWaits keyI_ok ze_want hw1 hw2 (firstN n) false), if_neg Bool.false_ne_true, waits_get]
  generalize hwt : (aGet ws (firstN n)).getD ⟨[], 0⟩ = wt
  refine st_talloc ze_want hT ?_
  intro b w3 h3 hb
  refine st_tstoreN (vs := [strV wt.name, .int .i64 wt.mode]) (by rw [sz30]; rfl) h3 rfl (by simp [Value.oneCell']) (.inr hb) ?_
  intro w4 h4
  have h4 : TbAt W ks (wtBx b wt :: (bl, .cells #[v] 36 (0, 0)) :: (hl ++ F)) ⟨aSet T.names s (gn, n), ws⟩ g w4 := h4
  obtain ⟨b0, b1⟩ := wt_cells (h4.at_ (List.mem_cons_self ..))
  simp (disch := first | assumption | omega) only [PX, LX, add_mk, Nat.reduceAdd]
  refine st_call (h4.would hnn _ _) ?_
  rintro _ w5 ⟨rfl, h5⟩
  refine st_call (h5.goes hnn _ _) ?_
  rintro _ w6 ⟨rfl, h6⟩
  have back : ∀ {w' : World} {T' : Tb}, TbAt W ks (wtBx b wt :: (bl, .cells #[v] 36 (0, 0)) :: (hl ++ F)) T' g w' → TbAt W ks ((bl, .cells #[v] 36 (0, 0)) :: (hl ++ F)) T' g w' := fun hh => hh.weak (List.sublist_cons_self ..)
  simp only [PX]
  rw [bool_var]
  refine ⟨fun hgo => ?_, fun hgo => ?_⟩
  · refine fin ⟨v, hl, hr, back h6, hm2, hbl⟩ ?_
    rw [hp]
    have hgo : goesB n (firstN n) (wouldN n (firstN n) wt.mode) = false := by simpa using hgo
    unfold passN
    rw [if_neg hx, hwt, if_neg (by rw [hgo]; exact Bool.false_ne_true)]
    simp
  have hgo : goesB n (firstN n) (wouldN n (firstN n) wt.mode) = true := by simpa using hgo
  refine st_call (h6.leave hnn hsn (firstN n)) ?_
  rintro _ w7 ⟨rfl, h7⟩
  obtain ⟨bn, bw, on, ow, d0, d1, -⟩ := h7.look
  simp (disch := first | assumption | omega) only [PX, LX, add_mk, Nat.reduceAdd]
  refine st_waitsDel h7 d1 (firstN n) ?_
  intro w8 h8
  have hn8 : aGet (Tb.mk (putN ⟨aSet T.names s (gn, n), ws⟩ s (gn, leaveN n (firstN n))).names (aDel (putN ⟨aSet T.names s (gn, n), ws⟩ s (gn, leaveN n (firstN n))).waits (firstN n))).names s = some (gn, leaveN n (firstN n)) := get_putN _ _ _
  obtain ⟨bh, oh, vt, vr, c0, c1, c2, -⟩ := h8.name hn8
  simp (disch := first | assumption | omega) only [PX, LX, add_mk, Nat.reduceAdd]
  refine h8.heldSet hn8 c0 _ _ ?_
  intro w9 h9
  have e9 : (putN (Tb.mk (putN ⟨aSet T.names s (gn, n), ws⟩ s (gn, leaveN n (firstN n))).names (aDel (putN ⟨aSet T.names s (gn, n), ws⟩ s (gn, leaveN n (firstN n))).waits (firstN n))) s (gn, { leaveN n (firstN n) with held := aSet (leaveN n (firstN n)).held (firstN n) (wouldN n (firstN n) wt.mode) })) =
      ⟨aSet T.names s (gn, { leaveN n (firstN n) with held := aSet n.held (firstN n) (wouldN n (firstN n) wt.mode) }), aDel ws (firstN n)⟩ := by
    unfold putN; simp only [aSet_aSet]; rfl
  rw [e9] at h9
  rw [step_run (run_sLoad (wt_load (h9.at_ (List.mem_cons_self ..)))), step_run (build_gr _ _ _), step_enter (call_told _ _ _)]
  have hG9 : GrAt W ks F (gs ++ pre) bl ⟨aSet T.names s (gn, { leaveN n (firstN n) with held := aSet n.held (firstN n) (wouldN n (firstN n) wt.mode) }), aDel ws (firstN n)⟩ g w9 := ⟨v, hl, hr, back h9, hm2, hbl⟩
  refine CallsR.mono (told_spec hG9 (by rw [List.length_append]; have : L = n0.turns.length + n0.row.length := rfl; omega) (firstN n, wt)) ?_
  rintro u w10 ⟨rfl, hG10⟩
  obtain ⟨v2, hl2, hr2, hT2, hm22, -⟩ := hG10
  refine st_call (hT2.first (s := s) (gn := gn) (by show aGet (aSet T.names s _) s = _; rw [aGet_aSet, if_pos rfl])) ?_
  rintro _ w11 ⟨rfl, rfl⟩
  refine minK_go (I := I) (k' := k) ⟨_, aDel ws (firstN n), pre ++ [(firstN n, wt)], ⟨v2, hl2, by rw [← List.append_assoc]; exact hr2, hT2, hm22, hbl⟩, rfl, ?_, ?_, ⟨?_, ?_⟩, ?_⟩ (Nat.lt_succ_self k)
  · show (outN n.turns (firstN n)).length + (outN n.row (firstN n)).length ≤ k
    omega
  · rw [List.length_append, List.length_singleton]; omega
  · exact Nat.le_trans (outN_le _ _) hsn.1
  · exact Nat.le_trans (outN_le _ _) hsn.2
  · rw [hp, passN_go hx (by rw [hwt]; exact hgo), hwt]
    simp
end
end Go.Proofs.Ytakifgecgmdjcaa
