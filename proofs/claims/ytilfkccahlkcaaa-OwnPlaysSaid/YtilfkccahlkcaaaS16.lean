/- Same, Has of the document; appending numbers beside a book. -/
import Derived.Test.YtilfkccahlkcaaaS15
namespace Go.Proofs.Ytilfkccahlkcaaa
open Go Xf Go.RowKit Go.WideShapes
set_option linter.unusedVariables false
set_option linter.unusedSimpArgs false
set_option maxRecDepth 100000

def RdN (w : World) (v : Value) (l : List Int) : Prop := Rd w 1 v l.length (intsV .i64 l)
theorem RdN.len {w : World} {v : Value} {l : List Int} (h : RdN w v l) : ∃ A c, v = .slice A l.length c := by
  obtain ⟨A, c, he, _⟩ := h
  exact ⟨A, c, he⟩
theorem rdn_at {w : World} {v : Value} {l : List Int} (h : RdN w v l) {i : Nat} (hi : i < l.length) : ∃ a c, v = .slice (some a) l.length c ∧ w.cell? (a.add i) = some (.int .i64 l[i]) := by
  obtain ⟨A, c, rfl, _, _, hx⟩ := h
  obtain ⟨a, rfl, hx2⟩ := hx i (.int .i64 l[i]) (by simp [intsV, hi])
  exact ⟨a, c, rfl, hx2⟩

theorem Same_spec {w : World} {u v : Value} {a b : List Int} (hu : RdN w u a) (hv : RdN w v b) (hb : a.length ≤ 1000) :
    CallsR Try.prog 20 #[u, v] w fun r w' => r = .bool (decide (a = b)) ∧ Upd w w' [] := by
  apply flotillaref12_Same_sound
  unfold flotillaref12_Same_x
  obtain ⟨A, c, rfl⟩ := hu.len
  obtain ⟨B, d, rfl⟩ := hv.len
  simp (disch := omega) only [PX, BX]
  refine ⟨fun h => ⟨?_, Upd.refl w []⟩, fun h => ?_⟩
  · rw [decide_eq_false]; intro he; rw [he] at h; exact h rfl
  have hl : a.length = b.length := by omega
  refine st_loop (fun vs w' => Upd w w' [] ∧ ∃ i : Nat, vs.getD 1 undef = .int .i64 i ∧ i ≤ a.length ∧ a.take i = b.take i) (fun vs _ => a.length - (intOf (vs.getD 1 undef)).toNat) ⟨Upd.refl w [], 0, rfl, by omega, rfl⟩ ?_
  rintro dv vs w1 - ⟨hU, i, e1, hi, ht⟩
  simp (disch := omega) only [e1, PX, BX]
  refine ⟨fun hlt => ?_, fun hge => ?_⟩
  · have hia : i < a.length := by omega
    have hib : i < b.length := by omega
    let S : World → Prop := fun w' => Upd w w' []
    have hS : S w1.drew := hU.trans (Upd.drew w1 [])
    have hne : ∃ w', S w' := ⟨_, hS⟩
    obtain ⟨x, _, he, hx⟩ := rdn_at hu hia
    injection he with he _ _
    subst he
    obtain ⟨y, _, he, hy⟩ := rdn_at hv hib
    injection he with he _ _
    subst he
    have dx : ∀ w', S w' → w'.cell? (x.add i) = some (.int .i64 a[i]) := fun w' h => by rw [h.cell (World.block_lt_of_cell? w _ hx) (by simp)]; exact hx
    have dy : ∀ w', S w' → w'.cell? (y.add i) = some (.int .i64 b[i]) := fun w' h => by rw [h.cell (World.block_lt_of_cell? w _ hy) (by simp)]; exact hy
    refine st_draw S hS ?_
    simp (disch := first | assumption | omega) only [SX, SLX, BX, Nat.mul_one]
    refine ⟨fun hn => ⟨?_, hS⟩, fun hn => ?_⟩
    · rw [decide_eq_false]; intro he; subst he; exact hn rfl
    · have hn : a[i] = b[i] := Decidable.byContradiction hn
      simp (disch := omega) only [e1, PX, w64]
      refine ⟨⟨hS, i + 1, rfl, by omega, ?_⟩, ?_⟩
      · rw [List.take_succ_eq_append_getElem hia, List.take_succ_eq_append_getElem hib, ht, hn]
      · simp only [List.getD_cons_zero, List.getD_cons_succ, intOf]; omega
  · unfold flotillaref12_Same_k1
    refine ⟨?_, hU⟩
    rw [List.take_of_length_le (by omega), List.take_of_length_le (by omega)] at ht
    rw [decide_eq_true ht]

theorem RHas_spec {w : World} {v : Value} {l : List Int} (a : Int) (hr : RdN w v l) (hb : l.length < 9223372036854775807) :
    CallsR Try.prog 21 #[v, .int .i64 a] w fun r w' => r = .bool (decide (a ∈ l)) ∧ w' = w := by
  apply flotillaref12_Has_sound
  unfold flotillaref12_Has_x
  obtain ⟨A, c, rfl⟩ := hr.len
  refine st_loop (fun vs w' => w' = w ∧ ∃ i : Nat, vs.getD 1 undef = .int .i64 i ∧ i ≤ l.length ∧ a ∉ l.take i) (fun vs _ => l.length - (intOf (vs.getD 1 undef)).toNat) ⟨rfl, 0, rfl, by omega, by simp⟩ ?_
  rintro dv vs w1 - ⟨he, i, e1, hi, hn⟩
  subst w1
  simp (disch := omega) only [e1, PX, BX]
  refine ⟨fun hlt => ?_, fun hge => ?_⟩
  · have hlt' : i < l.length := by omega
    obtain ⟨x, _, he, hx⟩ := rdn_at hr hlt'
    injection he with he _ _
    subst he
    simp (disch := first | assumption | omega) only [PX, LX, BX, Nat.mul_one, e1, w64]
    refine ⟨fun he => ⟨?_, trivial⟩, fun he => ⟨⟨trivial, i + 1, rfl, by omega, ?_⟩, ?_⟩⟩
    · rw [decide_eq_true]; rw [← he]; exact List.getElem_mem hlt'
    · rw [List.take_succ_eq_append_getElem hlt', List.mem_append, List.mem_singleton]
      rintro (h | h)
      · exact hn h
      · exact he h.symm
    · simp only [List.getD_cons_zero, List.getD_cons_succ, intOf]; omega
  · unfold flotillaref12_Has_k1
    refine ⟨?_, rfl⟩
    rw [List.take_of_length_le (by omega)] at hn
    rw [decide_eq_false hn]

/-- append one number to a row beside a book -/
theorem st_apn {W w : World} {F h : List (Nat × Obj)} {v : Value} {l : List Int} {x : Int} {K : Value → World → Prop} (hU : Upd W w []) (hO : Owns w (h ++ F)) (hr : RowH 3 1 v l.length (intsV .i64 l) h) (hn : l.length ≤ 5000) (hh : ∀ q ∈ h, W.heap.size ≤ q.1)
    (hk : ∀ v' w' h', RowH 3 1 v' (l ++ [x]).length (intsV .i64 (l ++ [x])) h' → Owns w' (h' ++ F) → Upd W w' [] → (∀ q ∈ h', W.heap.size ≤ q.1) → K v' w') :
    (std Try.prog).step (sBuildSlice 36 1 [(0, .int .i64 x)]) w fun u w => (std Try.prog).step (sBuiltin .append #[36, 36] 36 [false, false] [v, u]) w K := by
  refine st_newRow (a_row36 x) hU hO ?_
  intro g2 w2 hU2 hO2 hg2
  have hrd2 : Rd w2 1 (.slice (some ⟨g2, 0, none⟩) 1 1) 1 (intsV .i64 [x]) := rd_row (hO2.at_ 0 rfl) rfl (by omega) rfl
  obtain ⟨inf, hi1, hz1, hs, hb⟩ := inf3
  refine st_append (ks := []) (F := (g2, .cells #[.int .i64 x] 3 (0, 0)) :: F) u36 hi1 hz1 hs hb rfl (by omega) hr (hO2.perm List.perm_middle.symm) hU2 (fun q hq => .inr (hh q hq)) hrd2 (intsV_one _ _) (by unfold maxLen; omega) (by omega) ?_
  intro v4 w4 h4 hr4 hO4 hU4 hh4
  refine hk v4 w4 h4 ?_ (hO4.sub (List.Sublist.append (List.Sublist.refl _) (.cons _ (List.Sublist.refl _)))) hU4 fun q hq => (hh4 q hq).resolve_left (by simp)
  rw [List.length_append]
  rw [intsV_append] at hr4
  exact hr4
end Go.Proofs.Ytilfkccahlkcaaa
