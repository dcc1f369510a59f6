/- The document's New; equal orders; one step. -/
import Derived.Test.YtilfkccahlkcaaaS22
namespace Go.Proofs.Ytilfkccahlkcaaa
open Go Xf Go.RowKit Go.WideShapes
set_option linter.unusedVariables false
set_option linter.unusedSimpArgs false
set_option maxRecDepth 100000

theorem bld68 (b : Bool) (w : World) : (sBuild 68 [(3, .bool b)]).run Try.prog w = .ok (.value (.agg (rowL (⟨0, false, false, b, []⟩, .slice none 0 0)).toArray)) w := by kernel_rfl
def nilE (xs : List Lf) : List (Lf × Value) := xs.map fun x => (x, .slice none 0 0)
theorem nilE_len (xs : List Lf) : (nilE xs).length = xs.length := by simp [nilE]
theorem RNew_spec {w : World} {F : List (Nat × Obj)} (hO : Owns w F) {v : Value} {fl : List Bool} (hv : ∀ w', Upd w w' [] → Owns w' F → Rd w' 1 v fl.length (boolsV fl)) (pages : Int) :
    CallsR Try.prog 22 #[.int .i64 pages, v] w fun r w' => Upd w w' [] ∧ if pages < 1 ∨ 16 < pages ∨ pages < fl.length then r = .tuple #[.slice none 0 0, .bool false]
      else ∃ (G : List (Nat × Obj)) (v' : Value), r = .tuple #[v', .bool true] ∧ (∀ q ∈ G, w.heap.size ≤ q.1) ∧ Owns w' (G ++ F) ∧ Ref (G ++ F) v' (newL pages.toNat fl) := by
  apply flotillaref20_New_sound
  unfold flotillaref20_New_x
  obtain ⟨A, c, rfl, hc, _, _⟩ := hv w (Upd.refl w []) hO
  simp (disch := omega) only [PX, BX, flotillaref20_New_k1]
  refine ⟨fun h => ⟨Upd.refl w [], by rw [if_pos (.inl h)]; trivial⟩, fun h1 => ⟨fun h => ⟨Upd.refl w [], by rw [if_pos (.inr (.inl h))]; trivial⟩, fun h16 => ⟨fun h => ⟨Upd.refl w [], by rw [if_pos (.inr (.inr h))]; trivial⟩, fun hf => ?_⟩⟩⟩
  obtain ⟨pn, rfl⟩ : ∃ n : Nat, pages = n := ⟨pages.toNat, by omega⟩
  refine st_loop (fun vs w' => ∃ (i : Nat) (h : List (Nat × Obj)), i ≤ pn ∧ vs.getD 1 undef = .int .i64 i ∧ RowH 68 5 (vs.getD 0 undef) i ((nilE (newL i fl)).flatMap rowL) h ∧ Owns w' (h ++ F) ∧ Upd w w' [] ∧ ∀ q ∈ h, w.heap.size ≤ q.1)
    (fun vs _ => pn - (intOf (vs.getD 1 undef)).toNat) ⟨0, [], by omega, rfl, RowH.nil_ _ _, hO, Upd.refl w [], fun q hq => by cases hq⟩ ?_
  rintro dv vs w1 - ⟨i, h, hi, e1, hrow, hO1, hU1, hh⟩
  simp (disch := omega) only [e1, PX, BX]
  refine ⟨fun hlt => ?_, fun hge => ?_⟩
  rotate_left
  · have : i = pn := by omega
    subst this
    unfold flotillaref20_New_k2
    refine ⟨hU1, ?_⟩
    rw [if_neg (by omega), Int.toNat_natCast]
    refine ⟨h, _, rfl, hh, hO1, nilE (newL i fl), (by rw [nilE, List.map_map]; exact (List.map_congr_left (fun _ _ => rfl)).trans (List.map_id _)), fun w'' hO'' => ⟨?_, fun e he => ?_⟩⟩
    · rw [nilE_len, newL_len]
      exact hrow.rd hO''
    · obtain ⟨x, hx, rfl⟩ := List.mem_map.1 he
      obtain ⟨j, _, rfl⟩ := List.mem_map.1 hx
      exact Rd.nil_ _ _
  have hlt' : i < pn := by omega
  have rest : ∀ b : Bool, b = fl.getD i false → (std Try.prog).step (sBuild 68 [(3, .bool b)]) w1 fun v36 w9 => (std Try.prog).step (sBuildSlice 52 1 [(0, v36)]) w9 fun v37 w9 => (std Try.prog).step (sBuiltin .append #[52, 52] 52 [false, false] [(vs.getD 0 undef), v37]) w9 fun v38 w2 =>
      flotillaref20_New_k3 (std Try.prog) vs (fun vs' w' => (∃ (i : Nat) (h : List (Nat × Obj)), i ≤ pn ∧ vs'.getD 1 undef = .int .i64 i ∧ RowH 68 5 (vs'.getD 0 undef) i ((nilE (newL i fl)).flatMap rowL) h ∧ Owns w' (h ++ F) ∧ Upd w w' [] ∧ ∀ q ∈ h, w.heap.size ≤ q.1) ∧ pn - (intOf (vs'.getD 1 undef)).toNat < pn - (intOf (Value.int .i64 (i : Int))).toNat) v38 w2 fun r w' => Upd w w' [] ∧ if (pn : Int) < 1 ∨ 16 < (pn : Int) ∨ (pn : Int) < fl.length then r = .tuple #[.slice none 0 0, .bool false]
      else ∃ (G : List (Nat × Obj)) (v' : Value), r = .tuple #[v', .bool true] ∧ (∀ q ∈ G, w.heap.size ≤ q.1) ∧ Owns w' (G ++ F) ∧ Ref (G ++ F) v' (newL (pn : Int).toNat fl) := by
    intro b hb
    rw [step_run (bld68 b w1)]
    refine st_newRow (row52 ⟨0, false, false, b, []⟩ none 0 0) hU1 hO1 ?_
    intro g2 w2 hU2 hO2 hg2
    have hrd2 : Rd w2 5 (.slice (some ⟨g2, 0, none⟩) 1 1) 1 (rowL (⟨0, false, false, b, []⟩, .slice none 0 0)) := by
      refine ⟨_, 1, rfl, Nat.le_refl _, rfl, fun j u hj => ⟨_, rfl, ?_⟩⟩
      rw [add_mk, Nat.zero_add, cell_at (hO2.at_ 0 rfl)]
      simpa using hj
    obtain ⟨inf, hi1, hz1, hs, hb'⟩ := inf68
    refine st_append (ks := []) u52 hi1 hz1 hs hb' rfl (by omega) hrow (hO2.perm List.perm_middle.symm) hU2 (fun q hq => .inr (hh q hq)) hrd2 (rowL_one rfl) (by unfold maxLen; omega) (by omega) ?_
    intro v4 w4 h4 hr4 hO4 hU4 hh4
    unfold flotillaref20_New_k3
    simp (disch := omega) only [e1, PX, w64]
    refine ⟨⟨i + 1, h4, by omega, rfl, ?_, hO4.sub (List.Sublist.append (List.Sublist.refl _) (.cons _ (List.Sublist.refl _))), hU4, fun q hq => (hh4 q hq).resolve_left (by simp)⟩, ?_⟩
    · rw [newL_succ, ← hb]
      unfold nilE
      rw [List.map_append, List.flatMap_append]
      exact hr4
    · simp only [List.getD_cons_zero, List.getD_cons_succ, intOf]; omega
  refine ⟨fun hf => ?_, fun hf => rest false (by rw [List.getD_eq_getElem?_getD, List.getElem?_eq_none (by omega)]; rfl)⟩
  have hif : i < fl.length := by omega
  obtain ⟨A', c', he, _, _, hcell⟩ := hv w1 hU1 (hO1.sub (List.sublist_append_right _ _))
  injection he with he _ _
  subst he
  obtain ⟨a, rfl, hx⟩ := hcell i (.bool fl[i]) (by simp [boolsV, hif])
  simp (disch := first | assumption | omega) only [PX, LX, Nat.mul_one]
  exact rest fl[i] (by simp [List.getD_eq_getElem?_getD, hif])

theorem SameOrders_spec {w : World} {u v : Value} {a b : List Od} (hu : RdO w u a) (hv : RdO w v b) (hb : a.length ≤ 1000) :
    CallsR Try.prog 36 #[u, v] w fun r w' => r = .bool (decide (a = b)) ∧ Upd w w' [] := by
  apply flotillaref20_SameOrders_sound
  unfold flotillaref20_SameOrders_x
  obtain ⟨A, c, rfl⟩ := hu.len
  obtain ⟨B, d, rfl⟩ := hv.len
  simp (disch := omega) only [PX, BX]
  refine ⟨fun h => ⟨?_, Upd.refl w []⟩, fun h => ?_⟩
  · rw [decide_eq_false]; intro he; rw [he] at h; exact h rfl
  have hl : a.length = b.length := by omega
  refine st_loop (fun vs w' => Upd w w' [] ∧ ∃ i : Nat, vs.getD 1 undef = .int .i64 i ∧ i ≤ a.length ∧ a.take i = b.take i) (fun vs _ => a.length - (intOf (vs.getD 1 undef)).toNat) ⟨Upd.refl w [], 0, rfl, by omega, rfl⟩ ?_
  rintro dv vs w1 - ⟨hU, i, e1, hi, ht⟩
  simp (disch := omega) only [e1, PX, BX]
  refine ⟨fun hlt => ?_, fun hge => ?_⟩
  · have hia : i < a.length := by omega
    have hib : i < b.length := by omega
    let S : World → Prop := fun w' => Upd w w' []
    have hS : S w1.drew := hU.trans (Upd.drew w1 [])
    have hne : ∃ w', S w' := ⟨_, hS⟩
    obtain ⟨x, _, he, hx⟩ := ord_at hu hia
    injection he with he _ _
    subst he
    obtain ⟨y, _, he, hy⟩ := ord_at hv hib
    injection he with he _ _
    subst he
    have dx : ∀ w', S w' → ∀ j u, (odV a[i])[j]? = some u → w'.cell? ((x.add (i * 5)).add j) = some u := fun w' h j u hj => by
      have hc := hx j u hj
      rw [h.cell (World.block_lt_of_cell? w _ hc) (by simp)]; exact hc
    have dy : ∀ w', S w' → ∀ j u, (odV b[i])[j]? = some u → w'.cell? ((y.add (i * 5)).add j) = some u := fun w' h j u hj => by
      have hc := hy j u hj
      rw [h.cell (World.block_lt_of_cell? w _ hc) (by simp)]; exact hc
    refine st_draw S hS ?_
    simp (disch := first | assumption | omega) only [SX]
    rw [stepS_run hne fun w' hs => run_sLoad (run_loadVarN (cs := odV a[i]) ag46 sz46 (dx w' hs))]
    rw [stepS_run hne fun w' hs => run_sLoad (run_loadVarN (cs := odV b[i]) ag46 sz46 (dy w' hs))]
    rw [stepS_run hne fun w' hs => (eq_od a[i] b[i] w').2 _ _]
    rw [bool_not, bool_dec]
    refine ⟨fun hn => ?_, fun hn => ⟨?_, hS⟩⟩
    · simp (disch := omega) only [e1, PX, w64]
      refine ⟨⟨hS, i + 1, rfl, by omega, ?_⟩, ?_⟩
      · rw [List.take_succ_eq_append_getElem hia, List.take_succ_eq_append_getElem hib, ht, hn]
      · simp only [List.getD_cons_zero, List.getD_cons_succ, intOf]; omega
    · rw [decide_eq_false]; intro he; subst he; exact hn rfl
  · unfold flotillaref20_SameOrders_k1
    refine ⟨?_, hU⟩
    rw [List.take_of_length_le (by omega), List.take_of_length_le (by omega)] at ht
    rw [decide_eq_true ht]

/-- one step on both -/
theorem step_spec {W w : World} {F : List (Nat × Obj)} {gb : Nat} {xs : List Lf} {v : Value} (hB : Bk W F gb xs w) (hR : Ref F v xs) (hI : Inv xs) (o : Op3) :
    CallsR Try.prog 23 #[.pointer (some ⟨gb, 0, none⟩), v, .agg (opV o).toArray] w fun r w' => ∃ (G : List (Nat × Obj)) (v' : Value), r = .tuple #[v', .bool true] ∧ Bk W (G ++ F) gb (playL xs o).1 w' ∧ Ref (G ++ F) v' (playL xs o).1 := by
  apply flotillalaw20_step_sound
  unfold flotillalaw20_step_x
  have h16 := hI.1
  have hN8 : ∀ x ∈ xs, x.waits.length ≤ 800 := fun x hx => by have := (hI.2 x hx).len; omega
  obtain ⟨R, hO, hcl⟩ := hB.open
  refine st_box hB.upd hO ?_
  intro g5 w1 hU1 hO1 hg5
  let OB : Nat × Obj := (g5, .cells (opV o).toArray 32 (0, 0))
  have hB1 : Bk W ([OB] ++ F) gb xs w1 := hcl ([OB] ++ F) w1 hO1 hU1
  clear hB hO hcl hU1 hO1
  have cells : ∀ {w' : World} {X : List (Nat × Obj)}, Owns w' (X ++ ([OB] ++ F)) → w'.cell? ⟨g5, 1, none⟩ = some (.int .i64 o.page) ∧ w'.cell? ⟨g5, 2, none⟩ = some (.int .i64 o.inst) := fun h => by
    have hb := h.2 OB (List.mem_append_right _ (.head _))
    exact ⟨cell_at hb, cell_at hb⟩
  have c0 : w1.cell? ⟨g5, 0, none⟩ = some (.int .i64 o.kind) := cell_at (hB1.F.at_ 0 rfl)
  obtain ⟨c1, c2⟩ := cells (X := []) hB1.F
  have hR1 : Ref ([OB] ++ F) v xs := hR.mono (List.sublist_append_right _ _)
  -- both told the same
  have same : ∀ (p : List Lf × List Od × Int) (G ho : List (Nat × Obj)) (v' ro rr : Value) (w2 : World), p.2.1.length ≤ 2 → Bk W (ho ++ (G ++ ([OB] ++ F))) gb p.1 w2 → OrdR ro p.2.1 ho → (∀ w'', Owns w'' (G ++ ([OB] ++ F)) → RdO w'' rr p.2.1) → Ref (G ++ ([OB] ++ F)) v' p.1 → p.1 = (playL xs o).1 →
      flotillalaw20_step_k1 (std Try.prog) v' rr (.int .i64 p.2.2) ro (.int .i64 p.2.2) w2 fun r w' => ∃ (G : List (Nat × Obj)) (v' : Value), r = .tuple #[v', .bool true] ∧ Bk W (G ++ F) gb (playL xs o).1 w' ∧ Ref (G ++ F) v' (playL xs o).1 := by
    intro p G ho v' ro rr w2 hc hB2 hor hrr hR2 hpl
    unfold flotillalaw20_step_k1
    simp only [PX, BX]
    refine ⟨fun _ => ?_, fun h => absurd trivial h⟩
    refine st_call (SameOrders_spec (hor.rd hB2.F) (hrr w2 (hB2.F.sub (List.sublist_append_right _ _))) (by omega)) ?_
    rintro _ w3 ⟨rfl, hU3⟩
    rw [decide_eq_true rfl, ← hpl]
    refine ⟨G ++ [OB], v', rfl, ?_, ?_⟩
    · rw [List.append_assoc]; exact (hB2.ext hU3).drop
    · rw [List.append_assoc]; exact hR2
  simp (disch := first | assumption | omega) only [PX, BX, LX, add_mk, Nat.zero_add]
  refine ⟨fun h0 => ?_, fun h0 => ⟨fun h1 => ?_, fun h1 => ⟨fun h2 => ?_, fun h2 => ⟨fun h3 => ?_, fun h3 => ?_⟩⟩⟩⟩
  · refine st_call (RNeed_spec hB1.F hR1 h16 hN8 o.page o.inst) ?_
    rintro _ w2 ⟨hU2, G, v', rr, rfl, hG, hO2, hR2, hrr⟩
    have hB2 := hB1.ref hU2 hO2 hG
    obtain ⟨c1, c2⟩ := cells (X := G) hB2.F
    simp (disch := first | assumption | omega) only [PX, LX, add_mk, Nat.zero_add]
    refine st_call (Need_spec hB2 hI.n900 o.page o.inst) ?_
    rintro _ w3 ⟨ro, ho, rfl, hor, hB3, hho⟩
    simp only [PX]
    exact same _ G ho v' ro rr w3 (need_count _ _ _) hB3 hor hrr hR2 (by unfold playL; rw [if_pos h0])
  · refine st_call (RBack_spec hB1.F hR1 h16 hN8 o.page o.inst) ?_
    rintro _ w2 ⟨hU2, G, v', rr, rfl, hG, hO2, hR2, hrr⟩
    have hB2 := hB1.ref hU2 hO2 hG
    obtain ⟨c1, c2⟩ := cells (X := G) hB2.F
    simp (disch := first | assumption | omega) only [PX, LX, add_mk, Nat.zero_add]
    refine st_call (Back_spec hB2 hI.n900 o.page o.inst) ?_
    rintro _ w3 ⟨ro, ho, rfl, hor, hB3, hho⟩
    simp only [PX]
    exact same _ G ho v' ro rr w3 (back_count _ _ _) hB3 hor hrr hR2 (by unfold playL; rw [if_neg h0, if_pos h1])
  · refine st_call (RFail_spec hB1.F hR1 h16 hN8 o.inst) ?_
    rintro _ w2 ⟨hU2, G, v', rl, rfl, hG, hO2, hR2, hrl⟩
    have hB2 := hB1.ref hU2 hO2 hG
    obtain ⟨c1, c2⟩ := cells (X := G) hB2.F
    simp (disch := first | assumption | omega) only [PX, LX, add_mk, Nat.zero_add]
    refine st_call (Fail_spec hB2 (by omega) hI.n900 o.inst) ?_
    rintro rg w3 ⟨hr, hrow, hB3, hhr⟩
    have := fail_count hI o.inst
    refine st_call (Same_spec (hrow.rd hB3.F) (hrl w3 (hB3.F.sub (List.sublist_append_right _ _))) (by omega)) ?_
    rintro _ w4 ⟨rfl, hU4⟩
    have hpl : (playL xs o).1 = (failL xs o.inst).1 := by unfold playL; rw [if_neg h0, if_neg h1, if_pos h2]
    rw [hpl, decide_eq_true rfl]
    refine ⟨G ++ [OB], v', rfl, ?_, ?_⟩
    · rw [List.append_assoc]; exact (hB3.ext hU4).drop
    · rw [List.append_assoc]; exact hR2
  · refine st_call (RMend_spec hB1.F hR1 h16 hN8 o.page) ?_
    rintro _ w2 ⟨hU2, G, v', rr, rfl, hG, hO2, hR2, hrr⟩
    have hB2 := hB1.ref hU2 hO2 hG
    obtain ⟨c1, c2⟩ := cells (X := G) hB2.F
    simp (disch := first | assumption | omega) only [PX, LX, add_mk, Nat.zero_add]
    refine st_call (Mend_spec hB2 hI.n900 o.page) ?_
    rintro _ w3 ⟨ro, ho, rfl, hor, hB3, hho⟩
    simp only [PX]
    exact same _ G ho v' ro rr w3 (mend_count _ _) hB3 hor hrr hR2 (by unfold playL; rw [if_neg h0, if_neg h1, if_neg h2, if_pos h3])
  · exact same (xs, [], 0) [] [] v _ _ w1 (by simp) hB1 ordR_nil (fun w'' _ => Rd.nil_ _ _) hR1 (by unfold playL; rw [if_neg h0, if_neg h1, if_neg h2, if_neg h3])
end Go.Proofs.Ytilfkccahlkcaaa
