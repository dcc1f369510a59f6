/- The document's books: Serve. -/
import Derived.Test.YtilfkccahlkcaaaS19
namespace Go.Proofs.Ytilfkccahlkcaaa
open Go Xf Go.RowKit Go.WideShapes
set_option linter.unusedVariables false
set_option linter.unusedSimpArgs false
set_option maxRecDepth 100000

theorem head0 {l : List Int} (h : 0 < l.length) : l[0] = l.headD 0 := by
  cases l with
  | nil => simp at h
  | cons a r => rfl
/-- x := l[i] -/
theorem st_leaf {W w : World} {v : Value} {es : List (Lf × Value)} {i : Nat} {F h : List (Nat × Obj)} {K : Value → World → Prop} (hR : RefA w v es) (hi : i < es.length) (hU : Upd W w []) (hO : Owns w h)
    (hk : ∀ g w', Upd W w' [] → Owns w' ((g, .cells (rowL es[i]).toArray 68 (0, 0)) :: h) → W.heap.size ≤ g → K (.pointer (some ⟨g, 0, none⟩)) w') :
    (std Try.prog).step (sIndexAddr 52 v (.int .i64 (i : Nat))) w fun v49 w => (std Try.prog).step (sLoad 68 v49) w fun v50 w => (std Try.prog).step (sAlloc 68) w fun v12 w => (std Try.prog).step (sStore 68 v12 v50) w fun _ w => K v12 w := by
  obtain ⟨a, c, rfl, hx⟩ := hR.at_ hi
  rw [step_run (run_idxS u52 sz68 (by omega) (by omega)), show (i : Int).toNat * 5 = i * 5 by omega]
  refine st_loadN (cs := rowL es[i]) ag68 sz68 hx ?_
  refine st_alloc ze68 hU hO ?_
  intro g w4 hU4 hO4 hg
  have hone : oneB es[i].2 = true := by
    obtain ⟨A, c', h1⟩ := (hR.2 es[i] (List.getElem_mem hi)).len
    rw [h1]; rfl
  refine st_storeN (vs := rowL es[i]) (by rw [sz68]; rfl) hU4 hO4 0 rfl (by simp [Value.cells, rowL]) (rowL_one hone) (.inr hg) ?_
  intro w5 hU5 hO5
  exact hk g w5 hU5 hO5 hg

/-- what Serve answers -/
def SerR (w : World) (F : List (Nat × Obj)) (es : List (Lf × Value)) (i : Nat) (x : Lf) (os : List Od) (r : Value) (w' : World) : Prop :=
  Upd w w' [] ∧ ∃ (G : List (Nat × Obj)) (v' u' ro : Value), r = .tuple #[v', ro] ∧ (∀ q ∈ G, w.heap.size ≤ q.1) ∧ Owns w' (G ++ F) ∧ RefE (G ++ F) v' (es.set i (x, u')) ∧ ∀ w'', Owns w'' (G ++ F) → RdO w'' ro os

section
variable {w w1 : World} {F Y Y2 h1 : List (Nat × Obj)} {v u out : Value} {es : List (Lf × Value)} {i g6 : Nat} {x : Lf} {os o1 : List Od}
theorem serve_k2 (hU : Upd w w1 []) (hO : Owns w1 (Y ++ F)) (hY : ∀ q ∈ Y, w.heap.size ≤ q.1) (hg : (g6, Obj.cells (rowL (x, u)).toArray 68 (0, 0)) ∈ Y) (hR : RefE F v es) (hi : i < es.length) (hl : es.length ≤ 16)
    (hu : ∀ w, Owns w (Y ++ F) → RdN w u x.waits) (ho : ∀ w, Owns w (Y ++ F) → RdO w out os) :
    flotillaref20_Serve_k2 (std Try.prog) v (.int .i64 (i : Nat)) (.pointer (some ⟨g6, 0, none⟩)) out w1 fun r w' => SerR w F es i x os r w' := by
  unfold flotillaref20_Serve_k2
  have hc := hO.2 _ (List.mem_append_left F hg)
  refine st_loadN (cs := rowL (x, u)) ag68 (by rw [sz68]; rfl) (by
    intro j u hj
    rw [add_mk, Nat.zero_add, cell_at hc]
    simpa using hj) ?_
  refine st_call (with_spec hO (hR.mono (List.sublist_append_right _ _)) hi hl hu) ?_
  rintro r w2 ⟨G, hRE, ⟨hU2, hO2⟩, hG⟩
  refine ⟨hU.trans hU2, G ++ Y, r, u, out, rfl, ?_, by rw [List.append_assoc]; exact hO2, by rw [List.append_assoc]; exact hRE, fun w'' hO'' => ?_⟩
  · intro q hq
    rcases List.mem_append.1 hq with hq | hq
    · exact Nat.le_trans hU.size (hG q hq)
    · exact hY q hq
  · rw [List.append_assoc] at hO''
    exact ho w'' (hO''.sub (List.sublist_append_right _ _))

theorem serve_k1 (hU : Upd w w1 []) (hO : Owns w1 (h1 ++ ((g6, Obj.cells (rowL (x, u)).toArray 68 (0, 0)) :: (Y2 ++ F)))) (hh : ∀ q ∈ h1, w.heap.size ≤ q.1) (hg : w.heap.size ≤ g6) (hY : ∀ q ∈ Y2, w.heap.size ≤ q.1) (hR : RefE F v es) (hi : i < es.length) (hl : es.length ≤ 16)
    (hu : ∀ w, Owns w (Y2 ++ F) → RdN w u x.waits) (hr : OrdR out o1 h1) (ho1 : o1.length ≤ 1) :
    flotillaref20_Serve_k1 (std Try.prog) v (.int .i64 (i : Nat)) (.pointer (some ⟨g6, 0, none⟩)) out w1 fun r w' => SerR w F es i (callL i x).1 (o1 ++ (callL i x).2) r w' := by
  have hO0 : Owns w1 ((g6, Obj.cells (rowL (x, u)).toArray 68 (0, 0)) :: (Y2 ++ F)) := hO.sub (List.sublist_append_right _ _)
  have hun := hu w1 (hO0.sub (List.sublist_cons_self _ _))
  obtain ⟨A, c, hue⟩ := hun.len
  subst hue
  have c0 : w1.cell? ⟨g6, 0, none⟩ = some (.int .i64 x.owner) := cell_at (hO0.at_ 0 rfl)
  have c2 : w1.cell? ⟨g6, 2, none⟩ = some (.bool x.called) := cell_at (hO0.at_ 0 rfl)
  have c4 : w1.cell? ⟨g6, 4, none⟩ = some (.slice A x.waits.length c) := cell_at (hO0.at_ 0 rfl)
  have skip : callL i x = (x, []) → flotillaref20_Serve_k2 (std Try.prog) v (.int .i64 (i : Nat)) (.pointer (some ⟨g6, 0, none⟩)) out w1 fun r w' => SerR w F es i (callL i x).1 (o1 ++ (callL i x).2) r w' := by
    intro hc
    rw [hc, List.append_nil]
    have e : h1 ++ ((g6, Obj.cells (rowL (x, .slice A x.waits.length c)).toArray 68 (0, 0)) :: (Y2 ++ F)) = (h1 ++ ((g6, Obj.cells (rowL (x, .slice A x.waits.length c)).toArray 68 (0, 0)) :: Y2)) ++ F := by simp
    rw [e] at hO
    refine serve_k2 hU hO ?_ (List.mem_append_right _ (.head _)) hR hi hl (fun w' hO' => ?_) fun w' hO' => ?_
    · intro q hq
      rcases List.mem_append.1 hq with hq | hq
      · exact hh q hq
      · cases hq with
        | head => exact hg
        | tail _ hq => exact hY q hq
    · rw [← e] at hO'
      exact hu w' (hO'.sub (.trans (List.sublist_cons_self _ _) (List.sublist_append_right _ _)))
    · rw [← e] at hO'
      exact hr.rd hO'
  unfold flotillaref20_Serve_k1
  simp (disch := first | assumption | omega) only [PX, BX, LX, add_mk, Nat.zero_add, flotillaref20_Serve_k3]
  refine ⟨fun h0 => ?_, fun h0 => skip (by unfold callL; rw [if_pos (.inl (Decidable.byContradiction h0))])⟩
  rw [bool_var]
  refine ⟨fun h1' => skip (by unfold callL; rw [if_pos (.inr (.inl h1'))]), fun h1' => ⟨fun h2 => ?_, fun h2 => skip (by unfold callL; rw [if_pos (.inr (.inr (List.eq_nil_of_length_eq_zero (by omega))))])⟩⟩
  have hw : x.waits ≠ [] := by intro hw; rw [hw] at h2; simp at h2
  have hC : callL (i : Int) x = ({ x with called := true }, [⟨2, i, x.owner, x.waits.headD 0, x.fast⟩]) := by
    unfold callL; rw [if_neg]; rintro (h | h | h); exact h0 h; rw [h1'] at h; cases h; exact hw h
  rw [hC]
  have hpos : 0 < x.waits.length := by omega
  have hhd : x.waits[0] = x.waits.headD 0 := head0 hpos
  refine st_storeB sz4 rfl hU (hO.perm List.perm_middle) 0 rfl (by simp [rowL]) (.inr (Nat.zero_le _)) (.inr hg) ?_
  intro w2 hU2 hO2
  have hO2 : Owns w2 ((g6, Obj.cells (rowL ({ x with called := true }, .slice A x.waits.length c)).toArray 68 (0, 0)) :: (h1 ++ (Y2 ++ F))) := hO2
  obtain ⟨a, _, he, hx0⟩ := rdn_at hun hpos
  injection he with he _ _
  subst he
  let S : World → Prop := fun w' => Owns w' ((g6, Obj.cells (rowL ({ x with called := true }, .slice (some a) x.waits.length c)).toArray 68 (0, 0)) :: (Y2 ++ F))
  have hS : ∀ {w'} {h : List (Nat × Obj)}, Owns w' ((g6, Obj.cells (rowL ({ x with called := true }, .slice (some a) x.waits.length c)).toArray 68 (0, 0)) :: (h ++ (Y2 ++ F))) → S w' := fun h => h.sub (.cons_cons _ (List.sublist_append_right _ _))
  have hO3 := hO2.ext (Upd.drew w2 [])
  have hU3 := hU2.trans (Upd.drew w2 [])
  have hne : ∃ w', S w' := ⟨_, hS hO3⟩
  have d0 : ∀ w', S w' → w'.cell? ⟨g6, 0, none⟩ = some (.int .i64 x.owner) := fun w' h => cell_at (h.at_ 0 rfl)
  have d3 : ∀ w', S w' → w'.cell? ⟨g6, 3, none⟩ = some (.bool x.fast) := fun w' h => cell_at (h.at_ 0 rfl)
  have d4 : ∀ w', S w' → w'.cell? ⟨g6, 4, none⟩ = some (.slice (some a) x.waits.length c) := fun w' h => cell_at (h.at_ 0 rfl)
  have dx : ∀ w', S w' → w'.cell? (a.add 0) = some (.int .i64 (x.waits.headD 0)) := fun w' h => by
    obtain ⟨a', _, he, hx⟩ := rdn_at (hu w' (h.sub (List.sublist_cons_self _ _))) hpos
    injection he with he _ _
    injection he with he
    rw [he, ← hhd]; exact hx
  refine st_draw S (hS hO3) ?_
  simp (disch := first | assumption | omega) only [SX, SLX, add_mk, Nat.zero_add]
  rw [stepS_run hne fun w' _ => run_idxS u36 sz3 (by omega) (by omega), show Int.toNat 0 * 1 = 0 from rfl]
  simp (disch := first | assumption | omega) only [SX, SLX, add_mk, Nat.zero_add]
  rw [step_run (show (sBuild 46 [(0, .int .i64 2), (1, .int .i64 (i : Nat)), (2, .int .i64 x.owner), (3, .int .i64 (x.waits.headD 0)), (4, .bool x.fast)]).run Try.prog w2.drew = .ok (.value (.agg (odV ⟨2, i, x.owner, x.waits.headD 0, x.fast⟩).toArray)) w2.drew by kernel_rfl)]
  refine st_same (hS hO3) ?_
  refine st_newRow (od_row _) hU3 hO3 ?_
  intro g2 w4 hU4 hO4 hg2
  refine st_same (hS (h := h1) (hO4.sub (List.sublist_cons_self _ _))) ?_
  obtain ⟨inf, hi1, hz1, hs, hb⟩ := inf46
  let od : Od := ⟨2, i, x.owner, x.waits.headD 0, x.fast⟩
  have hP : ((g2, Obj.cells (odV od).toArray 46 (0, 0)) :: (g6, Obj.cells (rowL ({ x with called := true }, .slice (some a) x.waits.length c)).toArray 68 (0, 0)) :: (h1 ++ (Y2 ++ F))).Perm (h1 ++ ((g2, Obj.cells (odV od).toArray 46 (0, 0)) :: (g6, Obj.cells (rowL ({ x with called := true }, .slice (some a) x.waits.length c)).toArray 68 (0, 0)) :: (Y2 ++ F))) := by
    exact List.perm_append_comm_assoc [_, _] h1 (Y2 ++ F)
  refine st_append (ks := []) u33 hi1 hz1 hs hb rfl (by omega) hr (hO4.perm hP) hU4 (fun q hq => .inr (hh q hq)) ((ordR_one od g2).rd (F := _) hO4) (odV_one [od]) (by unfold maxLen; simp; omega) (by simp; omega) ?_
  intro v5 w5 h5 hr5 hO5 hU5 hh5
  refine st_keepT (fun _ => True) trivial ?_
  have e : h5 ++ ((g2, Obj.cells (odV od).toArray 46 (0, 0)) :: (g6, Obj.cells (rowL ({ x with called := true }, .slice (some a) x.waits.length c)).toArray 68 (0, 0)) :: (Y2 ++ F)) = (h5 ++ ((g2, Obj.cells (odV od).toArray 46 (0, 0)) :: (g6, Obj.cells (rowL ({ x with called := true }, .slice (some a) x.waits.length c)).toArray 68 (0, 0)) :: Y2)) ++ F := by simp
  rw [e] at hO5
  have hr6 : OrdR v5 (o1 ++ [od]) h5 := by
    unfold OrdR
    rw [List.length_append, List.flatMap_append]
    exact hr5
  refine serve_k2 hU5 hO5 ?_ (List.mem_append_right _ (.tail _ (.head _))) hR hi hl (fun w' hO' => ?_) fun w' hO' => ?_
  · intro q hq
    rcases List.mem_append.1 hq with hq | hq
    · exact (hh5 q hq).resolve_left (by simp)
    · cases hq with
      | head => exact hg2
      | tail _ hq =>
        cases hq with
        | head => exact hg
        | tail _ hq => exact hY q hq
  · rw [← e] at hO'
    exact hu w' (hO'.sub (.trans (.cons _ (.cons _ (List.Sublist.refl _))) (List.sublist_append_right _ _)))
  · rw [← e] at hO'
    exact hr6.rd hO'
end

theorem Serve_spec {w : World} {F : List (Nat × Obj)} {v : Value} {es : List (Lf × Value)} {i : Nat} (hO : Owns w F) (hR : RefE F v es) (hi : i < es.length) (hl : es.length ≤ 16) (hw9 : es[i].1.waits.length ≤ 900) :
    CallsR Try.prog 41 #[v, .int .i64 (i : Nat)] w fun r w' => SerR w F es i (serveL i es[i].1).1 (serveL i es[i].1).2 r w' := by
  apply flotillaref20_Serve_sound
  unfold flotillaref20_Serve_x
  refine st_leaf (F := F) (hR w hO) hi (Upd.refl w []) hO ?_
  intro g6 w1 hU1 hO1 hg
  have hue : ∀ w', Owns w' F → RdN w' es[i].2 es[i].1.waits := fun w' h => (hR w' h).2 _ (List.getElem_mem hi)
  generalize hxe : es[i] = xu at *
  obtain ⟨x, u⟩ := xu
  simp only at hw9 hue ⊢
  have skip : giveL i x = (x, []) → flotillaref20_Serve_k1 (std Try.prog) v (.int .i64 (i : Nat)) (.pointer (some ⟨g6, 0, none⟩)) (.slice none 0 0) w1 fun r w' => SerR w F es i (serveL i x).1 (serveL i x).2 r w' := by
    intro hg'
    unfold serveL
    rw [hg']
    exact serve_k1 (Y2 := []) (h1 := []) hU1 hO1 (fun q hq => by cases hq) hg (fun q hq => by cases hq) hR hi hl hue ordR_nil (by simp)
  have hun := hue w1 (hO1.sub (List.sublist_cons_self _ _))
  obtain ⟨A, c, hue'⟩ := hun.len
  subst hue'
  have c0 : w1.cell? ⟨g6, 0, none⟩ = some (.int .i64 x.owner) := cell_at (hO1.at_ 0 rfl)
  have c1 : w1.cell? ⟨g6, 1, none⟩ = some (.bool x.lost) := cell_at (hO1.at_ 0 rfl)
  have c4 : w1.cell? ⟨g6, 4, none⟩ = some (.slice A x.waits.length c) := cell_at (hO1.at_ 0 rfl)
  simp (disch := first | assumption | omega) only [PX, BX, LX, add_mk, Nat.zero_add, flotillaref20_Serve_k4]
  refine ⟨fun h0 => ?_, fun h0 => skip (by unfold giveL; rw [if_neg (by rintro ⟨h, _⟩; exact h0 h)])⟩
  rw [bool_var]
  refine ⟨fun h1 => skip (by unfold giveL; rw [if_neg (by rintro ⟨_, h, _⟩; rw [h1] at h; cases h)]), fun h1 => ⟨fun h2 => ?_, fun h2 => skip (by unfold giveL; rw [if_neg (by rintro ⟨_, _, h⟩; apply h; exact List.eq_nil_of_length_eq_zero (by omega))])⟩⟩
  have hw : x.waits ≠ [] := by intro hw; rw [hw] at h2; simp at h2
  have hpos : 0 < x.waits.length := by omega
  have hhd : x.waits[0] = x.waits.headD 0 := head0 hpos
  have hG : giveL (i : Int) x = ({ x with owner := x.waits.headD 0, waits := x.waits.drop 1 }, [⟨1, i, 0, x.waits.headD 0, x.fast⟩]) := by unfold giveL; rw [if_pos ⟨h0, h1, hw⟩]
  unfold serveL
  rw [hG]
  obtain ⟨a, _, he, hx0⟩ := rdn_at hun hpos
  injection he with he _ _
  subst he
  rw [hhd] at hx0
  rw [step_run (run_idxS u36 sz3 (by omega) (by omega)), show Int.toNat 0 * 1 = 0 from rfl]
  simp (disch := first | assumption | omega) only [PX, LX, add_mk, Nat.zero_add]
  refine st_storeB sz3 rfl hU1 hO1 0 rfl (by simp [rowL]) (.inr (Nat.zero_le _)) (.inr hg) ?_
  intro w2 hU2 hO2
  have hO2 : Owns w2 ((g6, Obj.cells (rowL ({ x with owner := x.waits.headD 0 }, .slice (some a) x.waits.length c)).toArray 68 (0, 0)) :: F) := hO2
  have c4 : w2.cell? ⟨g6, 4, none⟩ = some (.slice (some a) x.waits.length c) := cell_at (hO2.at_ 0 rfl)
  simp (disch := first | assumption | omega) only [PX, LX, add_mk, Nat.zero_add]
  have hun2 := hue w2 (hO2.sub (List.sublist_cons_self _ _))
  have hcc : x.waits.length ≤ c := by
    obtain ⟨A', c', he, hc', _⟩ := hun2
    injection he with _ _ he
    omega
  rw [step_run (run_sliceFrom u36 sz3 (by omega) (by omega) hcc), show Int.toNat 1 = 1 from rfl]
  have hrd := Rd.drop hun2 (i := 1) (by omega)
  obtain ⟨inf3, hi3, hz3, hs3, hb3⟩ := inf3
  refine st_append (h := []) (F := (g6, Obj.cells (rowL ({ x with owner := x.waits.headD 0 }, .slice (some a) x.waits.length c)).toArray 68 (0, 0)) :: F) (ks := []) u36 hi3 hz3 hs3 hb3 rfl (by omega) (RowH.nil_ 3 1) hO2 hU2 (fun q hq => by cases hq) hrd (fun y hy => intsV_one _ _ y (List.mem_of_mem_drop hy)) (by unfold maxLen; omega) (by omega) ?_
  intro u3 w3 h3 hr3 hO3 hU3 hh3
  have hr3' : RowH 3 1 u3 (x.waits.drop 1).length (intsV .i64 (x.waits.drop 1)) h3 := by
    rw [List.length_drop]
    rw [Nat.zero_add, List.nil_append] at hr3
    rw [show intsV .i64 (x.waits.drop 1) = (intsV .i64 x.waits).drop (1 * 1) by simp [intsV, List.map_drop]]
    exact hr3
  have hone : oneB u3 = true := by
    obtain ⟨A', c', he, _⟩ := hr3'.rd hO3
    rw [he]; rfl
  refine st_storeB sz36 hone hU3 (hO3.perm List.perm_middle) 0 rfl (by simp [rowL]) (.inr (Nat.zero_le _)) (.inr hg) ?_
  intro w4 hU4 hO4
  have hO4 : Owns w4 ((g6, Obj.cells (rowL ({ x with owner := x.waits.headD 0, waits := x.waits.drop 1 }, u3)).toArray 68 (0, 0)) :: (h3 ++ F)) := hO4
  have f0 : w4.cell? ⟨g6, 0, none⟩ = some (.int .i64 (x.waits.headD 0)) := cell_at (hO4.at_ 0 rfl)
  have f3 : w4.cell? ⟨g6, 3, none⟩ = some (.bool x.fast) := cell_at (hO4.at_ 0 rfl)
  simp (disch := first | assumption | omega) only [PX, LX, add_mk, Nat.zero_add]
  rw [step_run (show (sBuild 46 [(0, .int .i64 1), (1, .int .i64 (i : Nat)), (3, .int .i64 (x.waits.headD 0)), (4, .bool x.fast)]).run Try.prog w4 = .ok (.value (.agg (odV ⟨1, i, 0, x.waits.headD 0, x.fast⟩).toArray)) w4 by kernel_rfl)]
  let od : Od := ⟨1, i, 0, x.waits.headD 0, x.fast⟩
  refine st_newRow (od_row od) hU4 hO4 ?_
  intro g2 w5 hU5 hO5 hg2
  obtain ⟨inf, hi1, hz1, hs, hb⟩ := inf46
  refine st_append (h := []) (F := (g2, Obj.cells (odV od).toArray 46 (0, 0)) :: (g6, Obj.cells (rowL ({ x with owner := x.waits.headD 0, waits := x.waits.drop 1 }, u3)).toArray 68 (0, 0)) :: (h3 ++ F)) (ks := []) u33 hi1 hz1 hs hb rfl (by omega) (RowH.nil_ 46 5) hO5 hU5 (fun q hq => by cases hq) ((ordR_one od g2).rd (F := _) hO5) (odV_one [od]) (by unfold maxLen; simp) (by simp) ?_
  intro v6 w6 h6 hr6 hO6 hU6 hh6
  refine serve_k1 (Y2 := h3) (h1 := h6) (o1 := [od]) hU6 (hO6.sub (List.Sublist.append (List.Sublist.refl _) (List.sublist_cons_self _ _))) (fun q hq => (hh6 q hq).resolve_left (by simp)) hg (fun q hq => (hh3 q hq).resolve_left (by simp)) hR hi hl (fun w' hO' => hr3'.rd hO') ?_ (by simp)
  simpa [OrdR] using hr6
end Go.Proofs.Ytilfkccahlkcaaa
