/- RecOwn. -/
import Derived.Test.YtconmaojfkmlnaaRecW3
namespace Go.Proofs.Ytconmaojfkmlnaa.Rec
open Go Go.Proofs.Ytconmaojfkmlnaa Go.Proofs.Ytconmaojfkmlnaa.Enc Xf Go.RowKit
set_option linter.unusedVariables false
set_option linter.unusedSimpArgs false
set_option maxRecDepth 100000

/-- each byte of a row of one's own is turned -/
theorem flip {W w : World} {g n cap lo hi : Nat} {cs : Array Value} {F : List (Nat × Obj)} {K : World → Prop} {o1 o2 o3 o4 : Operand} (hU : Upd W w []) (hO : Owns w ((g, .cells cs 5 (lo, hi)) :: F)) (hg : W.heap.size ≤ g) (hn : n ≤ cs.size) (h63 : n ≤ maxLen)
    (hcs : ∀ i, i < n → ∃ z, cs[i]? = some (.int .u8 z)) (hfr : ∀ i, i < n → i < lo ∨ hi ≤ i) (hK : ∀ w' cs', Upd W w' [] → Owns w' ((g, .cells cs' 5 (lo, hi)) :: F) → K w') :
    (std Try.prog).loop [.int .i64 0] w fun dv vs w again => (std Try.prog).step (sBuiltin .len #[22] 3 [false] [.slice (some ⟨g, 0, none⟩) n cap]) w fun v62 w => (std Try.prog).step (sBin .lss 3 o1 o2 (vs.getD 0 undef) v62) w fun v63 w => (std Try.prog).bool v63
      ((std Try.prog).step (sIndexAddr 22 (.slice (some ⟨g, 0, none⟩) n cap) (vs.getD 0 undef)) w fun v70 w => (std Try.prog).step (sLoad 5 v70) w fun v71 w => (std Try.prog).step (sBin .xor 5 o3 (.const (.int .u8 255)) v71 (.int .u8 255)) w fun v72 w =>
        (std Try.prog).step (sIndexAddr 22 (.slice (some ⟨g, 0, none⟩) n cap) (vs.getD 0 undef)) w fun v73 w => (std Try.prog).step (sStore 5 v73 v72) w fun _ w => (std Try.prog).step (sBin .add 3 o4 (.const (.int .i64 1)) (vs.getD 0 undef) (.int .i64 1)) w fun v65 w => again [v65] w)
      (K w) := by
  refine st_loop (fun vs w' => ∃ (i : Nat) (cs' : Array Value), i ≤ n ∧ vs.getD 0 undef = .int .i64 i ∧ Upd W w' [] ∧ Owns w' ((g, .cells cs' 5 (lo, hi)) :: F) ∧ n ≤ cs'.size ∧ ∀ i, i < n → ∃ z, cs'[i]? = some (.int .u8 z)) (fun vs _ => n - (intOf (vs.getD 0 undef)).toNat) ⟨0, cs, by omega, rfl, hU, hO, hn, hcs⟩ ?_
  rintro dv vs w1 - ⟨i, cs', hi', e0, hU1, hO1, hn1, hcs1⟩
  simp (disch := omega) only [e0, PX, BX]
  refine ⟨fun hlt => ?_, fun _ => hK w1 cs' hU1 hO1⟩
  have hlt' : i < n := by omega
  obtain ⟨z, hz⟩ := hcs1 i hlt'
  have c0 : w1.cell? ⟨g, 0 + i, none⟩ = some (.int .u8 z) := by rw [Nat.zero_add, cell_at (hO1.at_ 0 rfl)]; exact hz
  simp (disch := first | assumption | omega) only [PX, LX, add_mk]
  refine st_storeB sz5 rfl hU1 hO1 0 rfl (by omega) (by rw [Nat.zero_add]; exact hfr i hlt') (.inr hg) ?_
  intro w2 hU2 hO2
  unfold maxLen at h63
  simp (disch := first | assumption | omega) only [PX, w64]
  refine ⟨⟨i + 1, _, by omega, rfl, hU2, hO2, by simpa using hn1, fun j hj => ?_⟩, ?_⟩
  · by_cases hij : 0 + i = j
    · subst hij
      exact ⟨_, by rw [Array.getElem?_setIfInBounds_self, if_pos (by omega)]⟩
    · rw [Array.getElem?_setIfInBounds_ne hij]
      exact hcs1 j hj
  · simp only [List.getD_cons_zero, intOf]; omega

theorem bytes_row {v : Value} {l : List UInt8} {h : List (Nat × Obj)} (hr : RowH 5 1 v l.length (bytesV l) h) (h0 : 0 < l.length) : ∃ g cap cs, v = .slice (some ⟨g, 0, none⟩) l.length cap ∧ h = [(g, .cells cs 5 (0, 0))] ∧ l.length ≤ cs.size ∧ ∀ i, i < l.length → ∃ z, cs[i]? = some (.int .u8 z) := by
  obtain ⟨_, ⟨_, hn, _⟩ | ⟨g, cap, cs, rfl, rfl, h1, h2, h3, h4⟩⟩ := hr
  · omega
  refine ⟨g, cap, cs, rfl, rfl, by omega, fun i hi => ?_⟩
  have : (cs.toList.take (l.length * 1))[i]? = (bytesV l)[i]? := by rw [h4]
  rw [List.getElem?_take, if_pos (by omega)] at this
  exact ⟨(l[i].toNat : Nat), by rw [← Array.getElem?_toList, this]; simp [bytesV, hi]⟩
theorem build_tx0 (w : World) : (sBuild 51 []).run Try.prog w = .ok (.value (.agg (txV ⟨0, 0, 0⟩).toArray)) w := by kernel_rfl
theorem build_di0 (w : World) : (sBuild 53 []).run Try.prog w = .ok (.value (.agg (diV ⟨0, 0⟩).toArray)) w := by kernel_rfl
theorem RecOwn_spec (W : World) (va : Value) (a : Re) (ha : RdRe W va a) (hsa : shortR a) : CallsR Try.prog 5 #[va] W fun r w' => r = .bool true ∧ Upd W w' [] := by
  apply flotillalaw05_RecOwn_sound
  unfold flotillalaw05_RecOwn_x
  have ha0 := ha
  obtain ⟨at', ad, rfl, hat, had⟩ := ha0
  refine st_box (Upd.refl W []) (Owns.nil W) ?_
  intro g w1 hU1 hO1 hg
  let H := [(g, reO a at' ad)]
  have hO1 : Owns w1 H := hO1
  rw [step_run (run_re (hO1.at_ 0 rfl))]
  refine st_call (light_spec w1 _ a (shortR_sum hsa) (ha.mono hU1)) ?_
  rintro _ w2 ⟨rfl, hU2⟩
  have hO2 := hO1.ext hU2
  have hU2 := hU1.trans hU2
  simp only [PX, BX]
  refine ⟨fun _ => ?_, fun _ => fin_lives hU2⟩
  rw [step_run (run_re (hO2.at_ 0 rfl))]
  refine st_call (Check_spec w2 _ a (ha.mono hU2)) ?_
  rintro _ w3 ⟨rfl, hU3⟩
  have hO3 := hO2.ext hU3
  have hU3 := hU2.trans hU3
  by_cases hka : okP a
  case neg =>
    rw [show okN (okP a) = 1 by unfold okN; rw [if_neg hka]]
    simp only [PX, BX]
    exact ⟨fun _ => fin_lives hU3, fun h => absurd (by decide) h⟩
  have ea : okN (okP a) = 0 := by unfold okN; rw [if_pos hka]
  have hl := reB_len hka
  have hf := frB_len a
  have hl21 : 21 ≤ (reB a).length := by have := headB_len a; unfold reB; simp only [List.length_append]; omega
  rw [ea]
  simp only [PX, BX]
  refine ⟨fun h => by simp at h, fun _ => ?_⟩
  rw [step_run (run_re (hO3.at_ 0 rfl))]
  refine st_call (Bytes_spec w3 _ a hka (ha.mono hU3)) ?_
  rintro _ w4 ⟨rfl, hU4⟩
  have hO4 := hO3.ext hU4
  have hU4 := hU3.trans hU4
  rw [step_run (run_re (hO4.at_ 0 rfl))]
  refine st_call (Encode_spec w4 _ a (ha.mono hU4)) ?_
  rintro _ w5 ⟨x, rfl, hx⟩
  rw [if_pos hka] at hx
  have hU5 := hU4.trans (NewB.upd hx)
  have rx := NewB.rd hx
  obtain ⟨hbx, qx1, qx2, qx3, qx4⟩ := hx
  have hO5 : Owns w5 (hbx ++ H) := owns_app hO4 qx3 qx2 qx4
  have hO5r : Owns w5 H := hO4.ext qx3
  rw [ea]
  simp only [PX]
  rw [step_run (run_re (hO5r.at_ 0 rfl))]
  refine st_call (Frame_spec w5 _ a (ha.mono hU5)) ?_
  rintro _ w6 ⟨u, rfl, hu⟩
  rw [if_pos hka] at hu
  have hU6 := hU5.trans (NewB.upd hu)
  have ru := NewB.rd hu
  have rx6 := rx.mono (NewB.upd hu)
  obtain ⟨hbu, qu1, qu2, qu3, qu4⟩ := hu
  have hO6 : Owns w6 (hbu ++ (hbx ++ H)) := owns_app hO5 qu3 qu2 qu4
  rw [ea]
  simp only [PX, BX]
  refine ⟨fun h => by simp at h, fun _ => ⟨fun h => by simp at h, fun _ => ?_⟩⟩
  refine st_call (Decode_spec w6 x (reB a) (by omega) rx6) ?_
  rintro _ w7 ⟨y, rfl, hy⟩
  rw [(decR_back hka).2] at hy ⊢
  have hU7 := hU6.trans (NewRe.upd hy)
  obtain ⟨yt, yd, ht, hd, rfl, y1, y2, y3, y4, y5⟩ := hy
  simp only at y1 y2
  have hO7 : Owns w7 ((ht ++ hd) ++ (hbu ++ (hbx ++ H))) := owns_app hO6 y5 y4 y3
  simp only [PX]
  refine st_alloc ze_re (Upd.refl w7 []) hO7 ?_
  intro g8 w8 hU8 hO8 hg8
  refine st_re (r0 := re0) (vt0 := nilS) (vd0 := nilS) hU8 hO8 0 rfl (RowH.one y1).1 (RowH.one y2).1 (.inr hg8) ?_
  intro w9 hU79 hO9
  have hO9 : Owns w9 ((g8, reO a yt yd) :: ((ht ++ hd) ++ (hbu ++ (hbx ++ H)))) := hO9
  have hU9 := hU7.trans hU79
  have hg8' : W.heap.size ≤ g8 := Nat.le_trans hU7.size hg8
  refine st_call (Unframe_spec w9 u (frB a) (by omega) (ru.mono (y5.trans hU79))) ?_
  rintro _ w10 ⟨z, rfl, hz⟩
  have hun := unfR_back hka []
  rw [List.append_nil] at hun
  rw [hun] at hz ⊢
  have hU10 := hU9.trans (NewRe.upd hz)
  obtain ⟨zt, zd, kt, kd, rfl, z1, z2, z3, z4, z5⟩ := hz
  have hO10 : Owns w10 ((kt ++ kd) ++ ((g8, reO a yt yd) :: ((ht ++ hd) ++ (hbu ++ (hbx ++ H))))) := owns_app hO9 z5 z4 z3
  simp only [PX]
  refine st_alloc ze_re (Upd.refl w10 []) hO10 ?_
  intro g11 w11 hU11 hO11 hg11
  refine st_re (r0 := re0) (vt0 := nilS) (vd0 := nilS) hU11 hO11 0 rfl (RowH.one z1).1 (RowH.one z2).1 (.inr hg11) ?_
  intro w12 hU12 hO12
  have hO12 : Owns w12 ((g11, reO a zt zd) :: ((kt ++ kd) ++ ((g8, reO a yt yd) :: ((ht ++ hd) ++ (hbu ++ (hbx ++ H)))))) := hO12
  have hU12 := hU10.trans hU12
  simp only [PX, BX]
  refine ⟨fun h => by simp at h, fun _ => ⟨fun h => by simp at h, fun _ => ?_⟩⟩
  -- what is kept: the record that was unframed, the argument's copy
  let E := (g11, reO a zt zd) :: ((kt ++ kd) ++ H)
  obtain ⟨gx, cx, csx, rfl, rfl, sx1, sx2⟩ := bytes_row qx1 (by omega)
  obtain ⟨gu, cu, csu, rfl, rfl, su1, su2⟩ := bytes_row qu1 (by omega)
  have hgx : W.heap.size ≤ gx := Nat.le_trans hU4.size (qx4 (gx, .cells csx 5 (0, 0)) (List.mem_singleton.2 rfl))
  have hgu : W.heap.size ≤ gu := Nat.le_trans hU5.size (qu4 (gu, .cells csu 5 (0, 0)) (List.mem_singleton.2 rfl))
  have hP : Owns w12 ((gx, .cells csx 5 (0, 0)) :: (gu, .cells csu 5 (0, 0)) :: ((g8, reO a yt yd) :: (ht ++ hd)) ++ E) := by
    refine hO12.perm ?_
    have : ∀ (p q r t : Nat × Obj) (A B : List (Nat × Obj)) (s : Nat × Obj), List.Perm (p :: (A ++ (q :: (B ++ ([r] ++ ([t] ++ [s])))))) (t :: r :: ((q :: B) ++ (p :: (A ++ [s])))) := by
      intro p q r t A B s
      classical
      refine List.perm_iff_count.2 fun x => ?_
      simp only [List.count_cons, List.count_append, List.count_nil]
      omega
    exact this _ _ _ _ _ _ _
  refine flip hU12 hP hgx sx1 (by unfold maxLen; omega) sx2 (fun i hi => .inr (Nat.zero_le _)) ?_
  intro w13 cs13 hU13 hO13
  have hO13 := hO13.sub (.cons _ (List.Sublist.refl _))
  unfold flotillalaw05_RecOwn_k1
  refine flip hU13 hO13 hgu su1 (by unfold maxLen; omega) su2 (fun i hi => .inr (Nat.zero_le _)) ?_
  intro w14 cs14 hU14 hO14
  have hO14 : Owns w14 (((g8, reO a yt yd) :: (ht ++ hd)) ++ E) := hO14.sub (.cons _ (List.Sublist.refl _))
  -- the end
  have fin : ∀ w', Upd W w' [] → Owns w' E → flotillalaw05_RecOwn_k4 (std Try.prog) (.pointer (some ⟨g, 0, none⟩)) (.string ⟨(reB a).toArray⟩) (.pointer (some ⟨g11, 0, none⟩)) w' fun r w' => r = .bool true ∧ Upd W w' [] := by
    intro w' hU hO
    unfold flotillalaw05_RecOwn_k4 flotillalaw05_RecOwn_k5
    have hOg : Owns w' H := hO.sub (.cons _ (List.sublist_append_right _ _))
    rw [step_run (run_re (hOg.at_ 0 rfl))]
    refine st_call (Encode_spec w' _ a (ha.mono hU)) ?_
    rintro _ v1 ⟨c, rfl, hc⟩
    rw [if_pos hka] at hc
    have hOv := hO.ext (NewB.upd hc)
    have hUv := hU.trans (NewB.upd hc)
    rw [ea]
    simp only [PX]
    rw [step_run (run_re (hOv.at_ 0 rfl)), step_run (run_re ((hOv.sub (h' := H) (.cons _ (List.sublist_append_right _ _))).at_ 0 rfl))]
    have hkk : Owns v1 (kt ++ kd) := hOv.sub (.cons _ (List.sublist_append_left _ _))
    have hzr : RdRe v1 (.agg (reV a zt zd).toArray) a := ⟨zt, zd, rfl, RdS.ofRow z1 (hkk.sub (List.sublist_append_left _ _)), RdS.ofRow z2 (hkk.sub (List.sublist_append_right _ _))⟩
    refine st_call (rSame_spec v1 _ _ a a hzr (ha.mono hUv)) ?_
    rintro _ v2 ⟨rfl, hU2⟩
    simp only [PX, BX]
    refine ⟨fun _ => ⟨fun _ => ?_, fun h => by simp at h⟩, fun h => by simp at h⟩
    rw [st_toStr ((NewB.rd hc).mono hU2)]
    simp only [PX, BX]
    exact ⟨fun _ => fin_lives (hUv.trans hU2), fun h => by simp at h⟩
  have third : ∀ w', Upd W w' [] → Owns w' ((g8, reO a yt yd) :: (hd ++ E)) → flotillalaw05_RecOwn_k3 (std Try.prog) (.pointer (some ⟨g, 0, none⟩)) (.string ⟨(reB a).toArray⟩) (.pointer (some ⟨g8, 0, none⟩)) (.pointer (some ⟨g11, 0, none⟩)) w' fun r w' => r = .bool true ∧ Upd W w' [] := by
    intro w' hU hO
    unfold flotillalaw05_RecOwn_k3
    have hlen : a.ds.length ≤ 16 := hka.2.2.2.2.2.2.2.2.2.2.1
    rcases y2.2 with ⟨rfl, h0, _⟩ | ⟨gt, cap, cs, rfl, rfl, c1, c2, c3, -⟩
    · refine st_loop (fun vs v => vs.getD 0 undef = .int .i64 0 ∧ v = w') (fun _ _ => 0) ⟨rfl, rfl⟩ ?_
      rintro dv vs v - ⟨e0, rfl⟩
      have c11 := (At.of (hO.at_ 0 rfl)).c11
      simp (disch := first | assumption | omega) only [e0, PX, BX, LX, add_mk, Nat.reduceAdd]
      exact ⟨fun h => by omega, fun _ => fin _ hU (hO.sub (.cons _ (List.sublist_append_right _ _)))⟩
    · have hgt : W.heap.size ≤ gt := Nat.le_trans hU6.size (y3 (gt, .cells cs 53 (0, 0)) (List.mem_append_right _ (List.mem_singleton.2 rfl)))
      refine st_loop (fun vs v => ∃ (i : Nat) (cs' : Array Value), i ≤ a.ds.length ∧ vs.getD 0 undef = .int .i64 i ∧ Upd W v [] ∧ Owns v ((g8, reO a yt (.slice (some ⟨gt, 0, none⟩) a.ds.length cap)) :: (gt, .cells cs' 53 (0, 0)) :: E) ∧ cs'.size = cap * 2) (fun vs _ => a.ds.length - (intOf (vs.getD 0 undef)).toNat) ⟨0, cs, by omega, rfl, hU, hO, c3⟩ ?_
      rintro dv vs v - ⟨i, cs', hi, e0, hUv, hOv, hsz⟩
      have c11 := (At.of (hOv.at_ 0 rfl)).c11
      simp (disch := first | assumption | omega) only [e0, PX, BX, LX, add_mk, Nat.reduceAdd]
      refine ⟨fun hlt => ?_, fun _ => fin _ hUv (hOv.sub (.cons _ (.cons _ (List.Sublist.refl _))))⟩
      rw [step_run (build_di0 _)]
      simp (disch := first | assumption | omega) only [PX, add_mk, Nat.zero_add]
      refine st_storeN (vs := diV ⟨0, 0⟩) (by rw [sz53]; rfl) hUv hOv 1 rfl (by simp [diV]; omega) (diV_one _) (.inr hgt) ?_
      intro v2 hU2 hO2
      simp (disch := omega) only [PX, w64, e0]
      refine ⟨⟨i + 1, _, by omega, rfl, hU2, hO2, ?_⟩, ?_⟩
      · simp [diV]; omega
      · simp only [List.getD_cons_zero, intOf]; omega
  unfold flotillalaw05_RecOwn_k2
  have hlen : a.ts.length ≤ 64 := hka.2.2.2.2.2.2.2.2.2.1
  rcases y1.2 with ⟨rfl, h0, hnil⟩ | ⟨gt, cap, cs, rfl, rfl, c1, c2, c3, -⟩
  · refine st_loop (fun vs v => vs.getD 0 undef = .int .i64 0 ∧ v = w14) (fun _ _ => 0) ⟨rfl, rfl⟩ ?_
    rintro dv vs v - ⟨e0, rfl⟩
    have c10 := (At.of (hO14.at_ 0 rfl)).c10
    simp (disch := first | assumption | omega) only [e0, PX, BX, LX, add_mk, Nat.reduceAdd]
    refine ⟨fun h => by omega, fun _ => third _ hU14 ?_⟩
    rw [hnil] at hO14
    exact hO14
  · have hgt : W.heap.size ≤ gt := Nat.le_trans hU6.size (y3 (gt, .cells cs 51 (0, 0)) (List.mem_append_left _ (List.mem_singleton.2 rfl)))
    refine st_loop (fun vs v => ∃ (i : Nat) (cs' : Array Value), i ≤ a.ts.length ∧ vs.getD 0 undef = .int .i64 i ∧ Upd W v [] ∧ Owns v ((g8, reO a (.slice (some ⟨gt, 0, none⟩) a.ts.length cap) yd) :: (gt, .cells cs' 51 (0, 0)) :: (hd ++ E)) ∧ cs'.size = cap * 3) (fun vs _ => a.ts.length - (intOf (vs.getD 0 undef)).toNat) ⟨0, cs, by omega, rfl, hU14, hO14, c3⟩ ?_
    rintro dv vs v - ⟨i, cs', hi, e0, hUv, hOv, hsz⟩
    have c10 := (At.of (hOv.at_ 0 rfl)).c10
    simp (disch := first | assumption | omega) only [e0, PX, BX, LX, add_mk, Nat.reduceAdd]
    refine ⟨fun hlt => ?_, fun _ => third _ hUv (hOv.sub (.cons_cons _ (.cons _ (List.Sublist.refl _))))⟩
    rw [step_run (build_tx0 _)]
    simp (disch := first | assumption | omega) only [PX, add_mk, Nat.zero_add]
    refine st_storeN (vs := txV ⟨0, 0, 0⟩) (by rw [sz51]; rfl) hUv hOv 1 rfl (by simp [txV]; omega) (txV_one _) (.inr hgt) ?_
    intro v2 hU2 hO2
    simp (disch := omega) only [PX, w64, e0]
    refine ⟨⟨i + 1, _, by omega, rfl, hU2, hO2, ?_⟩, ?_⟩
    · simp [txV]; omega
    · simp only [List.getD_cons_zero, intOf]; omega
end Go.Proofs.Ytconmaojfkmlnaa.Rec
