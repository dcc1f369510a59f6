/- The document's books: with, has, Serve. -/
import Derived.Test.YtilfkccahlkcaaaS18
namespace Go.Proofs.Ytilfkccahlkcaaa
open Go Xf Go.RowKit Go.WideShapes
set_option linter.unusedVariables false
set_option linter.unusedSimpArgs false
set_option maxRecDepth 100000

def rowL (e : Lf × Value) : List Value := [.int .i64 e.1.owner, .bool e.1.lost, .bool e.1.called, .bool e.1.fast, e.2]
theorem rowL_len (e : Lf × Value) : (rowL e).length = 5 := rfl
/-- v reads these leaves in w -/
def RefA (w : World) (v : Value) (es : List (Lf × Value)) : Prop := Rd w 5 v es.length (es.flatMap rowL) ∧ ∀ e ∈ es, RdN w e.2 e.1.waits
/-- v reads these leaves wherever these blocks stand -/
def RefE (F : List (Nat × Obj)) (v : Value) (es : List (Lf × Value)) : Prop := ∀ w, Owns w F → RefA w v es
theorem RefE.mono {F F' : List (Nat × Obj)} {v : Value} {es : List (Lf × Value)} (h : RefE F v es) (hs : F.Sublist F') : RefE F' v es := fun w hO => h w (hO.sub hs)
def Ref (F : List (Nat × Obj)) (v : Value) (xs : List Lf) : Prop := ∃ es : List (Lf × Value), es.map (·.1) = xs ∧ RefE F v es
theorem Ref.mono {F F' : List (Nat × Obj)} {v : Value} {xs : List Lf} (h : Ref F v xs) (hs : F.Sublist F') : Ref F' v xs := by
  obtain ⟨es, h1, h2⟩ := h
  exact ⟨es, h1, h2.mono hs⟩
theorem RefA.len {w : World} {v : Value} {es : List (Lf × Value)} (h : RefA w v es) : ∃ A c, v = .slice A es.length c ∧ es.length ≤ c := by
  obtain ⟨⟨A, c, he, hc, _⟩, _⟩ := h
  exact ⟨A, c, he, hc⟩
theorem RefA.at_ {w : World} {v : Value} {es : List (Lf × Value)} (h : RefA w v es) {i : Nat} (hi : i < es.length) : ∃ a c, v = .slice (some a) es.length c ∧ ∀ j u, (rowL es[i])[j]? = some u → w.cell? ((a.add (i * 5)).add j) = some u := by
  obtain ⟨A, c, rfl, _⟩ := h.len
  obtain ⟨a, rfl, hx⟩ := Rd.row (f := rowL) (k := 5) (fun _ => rfl) (by omega) h.1 hi
  refine ⟨a, c, rfl, fun j u hu => ?_⟩
  rw [add_add']
  have := hx w (Upd.refl w []) j u hu
  rwa [show ((i : Nat) : Int).toNat = i by omega] at this
theorem flat_set : ∀ (es : List (Lf × Value)) (i : Nat) (hi : i < es.length) (e : Lf × Value), (es.set i e).flatMap rowL = (es.flatMap rowL).take (i * 5) ++ rowL e ++ (es.flatMap rowL).drop ((i + 1) * 5)
  | a :: es, 0, _, e => by simp [rowL]
  | a :: es, i + 1, hi, e => by
    rw [List.set_cons_succ, List.flatMap_cons, flat_set es i (by simpa using hi) e, List.flatMap_cons]
    rw [show (i + 1) * 5 = (rowL a).length + i * 5 by rw [rowL_len]; omega, show (i + 1 + 1) * 5 = (rowL a).length + (i + 1) * 5 by rw [rowL_len]; omega]
    rw [List.take_length_add_append, List.drop_length_add_append]
    simp only [List.append_assoc, rowL_len]
    rw [show 5 + i * 5 = (i + 1) * 5 by omega]
theorem row52 (x : Lf) (A : Option Addr) (n c : Nat) (w : World) : (sBuildSlice 52 1 [(0, .agg (rowL (x, .slice A n c)).toArray)]).run Try.prog w = .ok (.value (.slice (some ⟨w.heap.size, 0, none⟩) 1 1)) (w.alloc (.cells (rowL (x, .slice A n c)).toArray 68)) := by kernel_rfl
theorem rowL_one {e : Lf × Value} (h : oneB e.2 = true) : ∀ u ∈ rowL e, u.oneCell' = true := by
  intro u hu
  simp [rowL] at hu
  rcases hu with rfl | rfl | rfl | rfl | rfl
  all_goals try rfl
  · revert h; cases e.2 <;> simp [oneB, Value.oneCell']
theorem RefA.one {w : World} {v : Value} {es : List (Lf × Value)} (h : RefA w v es) : ∀ u ∈ es.flatMap rowL, u.oneCell' = true := by
  intro u hu
  obtain ⟨e, he, hu⟩ := List.mem_flatMap.1 hu
  refine rowL_one ?_ u hu
  obtain ⟨A, c, h1⟩ := (h.2 e he).len
  rw [h1]; rfl

theorem with_spec {w : World} {F : List (Nat × Obj)} {v u : Value} {es : List (Lf × Value)} {i : Nat} {x : Lf} (hO : Owns w F) (hR : RefE F v es) (hi : i < es.length) (hl : es.length ≤ 16) (hx : ∀ w, Owns w F → RdN w u x.waits) :
    CallsR Try.prog 42 #[v, .int .i64 (i : Nat), .agg (rowL (x, u)).toArray] w fun r w' => ∃ h', RefE (h' ++ F) r (es.set i (x, u)) ∧ SU w (h' ++ F) w' ∧ ∀ q ∈ h', w.heap.size ≤ q.1 := by
  apply flotillaref20_with_sound
  unfold flotillaref20_with_x
  have hU : Upd w w [] := Upd.refl w []
  obtain ⟨Au, cu, hue⟩ := (hx w hO).len
  subst hue
  have hR0 := hR w hO
  have hone := hR0.one
  obtain ⟨A, c, rfl, hcc⟩ := hR0.len
  refine st_box hU hO ?_
  intro g5 w1 hU1 hO1 hg5
  rw [step_run (run_sliceTo u52 sz68 (by omega) (by omega)), Int.toNat_natCast]
  have hR1 := hR w1 (hO1.sub (List.sublist_cons_self _ _))
  have hrd1 := Rd.take hR1.1 (i := i) (by omega)
  obtain ⟨inf, hi1, hz1, hs, hb⟩ := inf68
  refine st_append (h := []) (F := (g5, .cells (Value.agg (rowL (x, .slice Au x.waits.length cu)).toArray).cells 68 (0, 0)) :: F) (ks := []) u52 hi1 hz1 hs hb rfl (by omega) (RowH.nil_ 68 5) hO1 hU1 (fun q hq => by cases hq) hrd1 (fun y hy => hone y (List.mem_of_mem_take hy)) (by unfold maxLen; omega) (by omega) ?_
  intro v2 w2 h2 hr2 hO2 hU2 hh2
  rw [Nat.zero_add, List.nil_append] at hr2
  have hg5' := hO2.2 (g5, .cells (rowL (x, .slice Au x.waits.length cu)).toArray 68 (0, 0)) (List.mem_append_right _ (.head _))
  refine st_loadN (cs := rowL (x, .slice Au x.waits.length cu)) ag68 (by rw [sz68]; rfl) (by
    intro j u hj
    rw [add_mk, Nat.zero_add, cell_at hg5']
    simpa using hj) ?_
  refine st_newRow (row52 x Au _ cu) hU2 hO2 ?_
  intro g3 w3 hU3 hO3 hg3
  have hrd3 : Rd w3 5 (.slice (some ⟨g3, 0, none⟩) 1 1) 1 (rowL (x, .slice Au x.waits.length cu)) := by
    refine ⟨_, 1, rfl, Nat.le_refl _, rfl, fun j u hj => ⟨_, rfl, ?_⟩⟩
    rw [add_mk, Nat.zero_add, cell_at (hO3.at_ 0 rfl)]
    simpa using hj
  refine st_append (F := (g3, .cells (rowL (x, .slice Au x.waits.length cu)).toArray 68 (0, 0)) :: (g5, .cells (Value.agg (rowL (x, .slice Au x.waits.length cu)).toArray).cells 68 (0, 0)) :: F) (ks := []) u52 hi1 hz1 hs hb rfl (by omega) hr2 (hO3.perm List.perm_middle.symm) hU3 hh2 hrd3 (rowL_one rfl) (by unfold maxLen; omega) (by omega) ?_
  intro v4 w4 h4 hr4 hO4 hU4 hh4
  simp (disch := omega) only [PX, w64]
  have hOF : Owns w4 F := hO4.sub (.trans (.cons _ (.cons _ (List.Sublist.refl _))) (List.sublist_append_right _ _))
  have hR4 := hR w4 hOF
  rw [step_run (run_sliceFrom u52 sz68 (by omega) (by omega) hcc), show ((i : Int) + 1).toNat = i + 1 by omega]
  have hrd4 := Rd.drop hR4.1 (i := i + 1) (by omega)
  refine st_append (ks := []) u52 hi1 hz1 hs hb rfl (by omega) hr4 hO4 hU4 hh4 hrd4 (fun y hy => hone y (List.mem_of_mem_drop hy)) (by unfold maxLen; omega) (by omega) ?_
  intro v5 w5 h5 hr5 hO5 hU5 hh5
  refine ⟨h5, fun w' hO' => ⟨?_, fun e he => ?_⟩, ⟨hU5, hO5.sub (List.Sublist.append (List.Sublist.refl _) (.cons _ (.cons _ (List.Sublist.refl _))))⟩, fun q hq => (hh5 q hq).resolve_left (by simp)⟩
  · have := hr5.rd (F := F) hO'
    rw [show i + 1 + (es.length - (i + 1)) = es.length by omega, ← flat_set es i hi] at this
    rw [List.length_set]
    exact this
  · have hF := hO'.sub (List.sublist_append_right h5 F)
    rcases List.mem_or_eq_of_mem_set he with he | rfl
    · exact (hR w' hF).2 e he
    · exact hx w' hF

theorem has40_spec {w : World} {v : Value} {l : List Int} (a : Int) (hr : RdN w v l) (hb : l.length < 9223372036854775807) :
    CallsR Try.prog 40 #[v, .int .i64 a] w fun r w' => r = .bool (decide (a ∈ l)) ∧ w' = w := by
  apply flotillaref20_has_sound
  unfold flotillaref20_has_x
  obtain ⟨A, c, rfl⟩ := hr.len
  refine st_loop (fun vs w' => w' = w ∧ ∃ i : Nat, vs.getD 1 undef = .int .i64 i ∧ i ≤ l.length ∧ a ∉ l.take i) (fun vs _ => l.length - (intOf (vs.getD 1 undef)).toNat) ⟨rfl, 0, rfl, by omega, by simp⟩ ?_
  rintro dv vs w1 - ⟨he, i, e1, hi, hn⟩
  subst w1
  simp (disch := omega) only [e1, PX, BX]
  refine ⟨fun hlt => ?_, fun hge => ?_⟩
  · have hlt' : i < l.length := by omega
    obtain ⟨x, _, he, hx⟩ := rdn_at hr hlt'
    injection he with he _ _
    subst he
    simp (disch := first | assumption | omega) only [PX, LX, BX, Nat.mul_one, e1, w64]
    refine ⟨fun he => ⟨?_, trivial⟩, fun he => ⟨⟨trivial, i + 1, rfl, by omega, ?_⟩, ?_⟩⟩
    · rw [decide_eq_true]; rw [← he]; exact List.getElem_mem hlt'
    · rw [List.take_succ_eq_append_getElem hlt', List.mem_append, List.mem_singleton]
      rintro (h | h)
      · exact hn h
      · exact he h.symm
    · simp only [List.getD_cons_zero, List.getD_cons_succ, intOf]; omega
  · unfold flotillaref20_has_k1
    refine ⟨?_, rfl⟩
    rw [List.take_of_length_le (by omega)] at hn
    rw [decide_eq_false hn]
end Go.Proofs.Ytilfkccahlkcaaa
