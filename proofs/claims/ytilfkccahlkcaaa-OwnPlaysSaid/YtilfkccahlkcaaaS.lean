/- Leaves: call, serve. -/
import Derived.Test.YtilfkccahlkcaaaM
namespace Go.Proofs.Ytilfkccahlkcaaa
open Go Xf Go.RowKit
set_option linter.unusedVariables false
set_option linter.unusedSimpArgs false
set_option maxRecDepth 100000

structure Lf where
  owner : Int
  lost : Bool
  called : Bool
  fast : Bool
  waits : List Int
structure Od where
  kind : Int
  page : Int
  src : Int
  dst : Int
  fast : Bool
deriving DecidableEq
def odV (o : Od) : List Value := [.int .i64 o.kind, .int .i64 o.page, .int .i64 o.src, .int .i64 o.dst, .bool o.fast]
theorem odV_one (l : List Od) : ∀ u ∈ l.flatMap odV, u.oneCell' = true := by
  intro u hu
  obtain ⟨o, _, ho⟩ := List.mem_flatMap.1 hu
  simp [odV] at ho
  rcases ho with rfl | rfl | rfl | rfl | rfl <;> rfl
def cellsL (x : Lf) (v : Value) : Array Value := #[.int .i64 x.owner, .bool x.lost, .bool x.called, .bool x.fast, v]
def leafO (x : Lf) (v : Value) : Obj := .cells (cellsL x v) 63 (0, 0)
/-- a leaf: block g -/
def LeafI (W : World) (F : List (Nat × Obj)) (g : Nat) (x : Lf) (w : World) : Prop :=
  ∃ (v : Value) (h : List (Nat × Obj)), RowO 3 v x.waits.length (intsV .i64 x.waits) h ∧ Owns w ((g, leafO x v) :: (h ++ F)) ∧ Upd W w [] ∧ (∀ p ∈ h, W.heap.size ≤ p.1) ∧ W.heap.size ≤ g
/-- orders that are told -/
def OrdR (r : Value) (os : List Od) (h : List (Nat × Obj)) : Prop := RowH 46 5 r os.length (os.flatMap odV) h

def callL (page : Int) (x : Lf) : Lf × List Od :=
  if x.owner = 0 ∨ x.called = true ∨ x.waits = [] then (x, []) else ({ x with called := true }, [⟨2, page, x.owner, x.waits.headD 0, x.fast⟩])
def giveL (page : Int) (x : Lf) : Lf × List Od :=
  if x.owner = 0 ∧ x.lost = false ∧ x.waits ≠ [] then ({ x with owner := x.waits.headD 0, waits := x.waits.drop 1 }, [⟨1, page, 0, x.waits.headD 0, x.fast⟩]) else (x, [])
def serveL (page : Int) (x : Lf) : Lf × List Od := ((callL page (giveL page x).1).1, (giveL page x).2 ++ (callL page (giveL page x).1).2)

theorem od_row (o : Od) (w : World) : (sBuildSlice 33 1 [(0, .agg (odV o).toArray)]).run Try.prog w = .ok (.value (.slice (some ⟨w.heap.size, 0, none⟩) 1 1)) (w.alloc (.cells (odV o).toArray 46)) := by kernel_rfl
theorem ordR_one (o : Od) (g : Nat) : OrdR (.slice (some ⟨g, 0, none⟩) 1 1) [o] [(g, .cells (odV o).toArray 46 (0, 0))] :=
  ⟨rfl, .inr ⟨g, 1, (odV o).toArray, rfl, rfl, Nat.le_refl _, by decide, rfl, rfl⟩⟩
theorem ordR_nil : OrdR (.slice none 0 0) [] [] := RowH.nil_ _ _
theorem head_at {l : List Int} (h : l ≠ []) : (intsV .i64 l)[0]? = some (.int .i64 (l.headD 0)) := by
  cases l with
  | nil => exact absurd rfl h
  | cons a l => rfl

theorem call_spec {W w : World} {F : List (Nat × Obj)} {g : Nat} {x : Lf} (page : Int) (h : LeafI W F g x w) :
    CallsR Try.prog 38 #[.pointer (some ⟨g, 0, none⟩), .int .i64 page] w fun r w' => ∃ ho, OrdR r (callL page x).2 ho ∧ LeafI W (ho ++ F) g (callL page x).1 w' ∧ ∀ p ∈ ho, W.heap.size ≤ p.1 := by
  apply own_leaf_call_sound
  unfold own_leaf_call_x
  have h0 := h
  obtain ⟨v, hh, hrow, hO, hU, hhs, hg⟩ := h0
  have hrd := hrow.rd (F := []) (by rw [List.append_nil]; exact hO.sub (.cons _ (List.sublist_append_left _ _)))
  have hrd' := hrd
  obtain ⟨A, c, rfl, hc, _, hcell⟩ := hrd'
  have c0 : w.cell? ⟨g, 0, none⟩ = some (.int .i64 x.owner) := cell_at (hO.at_ 0 rfl)
  have c2 : w.cell? ⟨g, 2, none⟩ = some (.bool x.called) := cell_at (hO.at_ 0 rfl)
  have c4 : w.cell? ⟨g, 4, none⟩ = some (.slice A x.waits.length c) := cell_at (hO.at_ 0 rfl)
  have none_ : (callL page x) = (x, []) → ∃ ho, OrdR (.slice none 0 0) (callL page x).2 ho ∧ LeafI W (ho ++ F) g (callL page x).1 w ∧ ∀ p ∈ ho, W.heap.size ≤ p.1 := by
    intro hc
    rw [hc]
    exact ⟨[], ordR_nil, h, fun p hp => by cases hp⟩
  simp (disch := first | assumption | omega) only [PX, BX, LX, add_mk, Nat.zero_add, own_leaf_call_k1]
  refine ⟨fun h0 => none_ (by unfold callL; rw [if_pos (.inl h0)]), fun h0 => ?_⟩
  rw [bool_var]
  refine ⟨fun h1 => none_ (by unfold callL; rw [if_pos (.inr (.inl h1))]), fun h1 => ⟨fun h2 => none_ (by unfold callL; rw [if_pos (.inr (.inr (List.eq_nil_of_length_eq_zero (by omega))))]), fun h2 => ?_⟩⟩
  have hw : x.waits ≠ [] := by intro hw; rw [hw] at h2; simp at h2
  have hC : callL page x = ({ x with called := true }, [⟨2, page, x.owner, x.waits.headD 0, x.fast⟩]) := by
    unfold callL; rw [if_neg]; rintro (h | h | h); exact h0 h; rw [h1] at h; cases h; exact hw h
  refine st_storeB sz4 rfl hU hO 0 rfl (by simp [cellsL]) (.inr (Nat.zero_le _)) (.inr hg) ?_
  intro w1 hU1 hO1
  have hO1 : Owns w1 ((g, leafO { x with called := true } (.slice A x.waits.length c)) :: (hh ++ F)) := hO1
  obtain ⟨a, rfl, hx0⟩ := hcell 0 _ (head_at hw)
  have hx : ∀ {w' : World}, Owns w' hh → w'.cell? (a.add 0) = some (.int .i64 (x.waits.headD 0)) := by
    intro w' hO'
    have := hrow.rd (F := []) (by rw [List.append_nil]; exact hO')
    obtain ⟨A', c', he, _, _, hcell'⟩ := this
    injection he with he1
    subst he1
    obtain ⟨a', ha, hx⟩ := hcell' 0 _ (head_at hw)
    injection ha with ha
    subst ha
    exact hx
  let H := (g, leafO { x with called := true } (.slice (some a) x.waits.length c)) :: (hh ++ F)
  have hS : SU W H w1.drew := SU.drew hU1 hO1
  have hne : ∃ w', SU W H w' := ⟨_, hS⟩
  have d0 : ∀ w', SU W H w' → w'.cell? ⟨g, 0, none⟩ = some (.int .i64 x.owner) := fun w' h => cell_at (h.2.at_ 0 rfl)
  have d3 : ∀ w', SU W H w' → w'.cell? ⟨g, 3, none⟩ = some (.bool x.fast) := fun w' h => cell_at (h.2.at_ 0 rfl)
  have d4 : ∀ w', SU W H w' → w'.cell? ⟨g, 4, none⟩ = some (.slice (some a) x.waits.length c) := fun w' h => cell_at (h.2.at_ 0 rfl)
  have dx : ∀ w', SU W H w' → w'.cell? (a.add 0) = some (.int .i64 (x.waits.headD 0)) := fun w' h => hx (h.2.sub (.cons _ (List.sublist_append_left _ _)))
  refine st_draw (SU W H) hS ?_
  simp (disch := first | assumption | omega) only [SX, SLX, add_mk, Nat.zero_add]
  rw [stepS_run hne fun w' _ => run_idxS u36 sz3 (by omega) (by omega), show Int.toNat 0 * 1 = 0 from rfl]
  simp (disch := first | assumption | omega) only [SX, SLX, add_mk, Nat.zero_add]
  rw [step_run (show (sBuild 46 [(0, .int .i64 2), (1, .int .i64 page), (2, .int .i64 x.owner), (3, .int .i64 (x.waits.headD 0)), (4, .bool x.fast)]).run Try.prog w1.drew = .ok (.value (.agg (odV ⟨2, page, x.owner, x.waits.headD 0, x.fast⟩).toArray)) w1.drew by kernel_rfl)]
  refine st_keepT (fun _ => True) trivial ?_
  refine st_newRow (od_row _) hS.1 hS.2 ?_
  intro g2 w2 hU2 hO2 hg2
  refine st_keepT (fun _ => True) trivial ?_
  rw [hC]
  refine ⟨[(g2, _)], ordR_one _ g2, ⟨_, hh, hrow, ?_, hU2, hhs, hg⟩, fun p hp => by rw [List.mem_singleton] at hp; rw [hp]; exact hg2⟩
  refine hO2.perm ?_
  refine (List.Perm.swap _ _ _).trans (List.Perm.cons _ ?_)
  exact List.perm_middle.symm

theorem serve_spec {W w : World} {F : List (Nat × Obj)} {g : Nat} {x : Lf} (page : Int) (hn : x.waits.length ≤ 1000) (h : LeafI W F g x w) :
    CallsR Try.prog 29 #[.pointer (some ⟨g, 0, none⟩), .int .i64 page] w fun r w' => ∃ ho, OrdR r (serveL page x).2 ho ∧ LeafI W (ho ++ F) g (serveL page x).1 w' ∧ ∀ p ∈ ho, W.heap.size ≤ p.1 := by
  apply own_leaf_serve_sound
  unfold own_leaf_serve_x
  -- behind what is given
  have rest : ∀ (x1 : Lf) (o1 : List Od) (r1 : Value) (h1 : List (Nat × Obj)) (w1 : World), giveL page x = (x1, o1) → o1.length ≤ 1 → OrdR r1 o1 h1 → LeafI W (h1 ++ F) g x1 w1 → (∀ p ∈ h1, W.heap.size ≤ p.1) →
      own_leaf_serve_k1 (std Try.prog) (.pointer (some ⟨g, 0, none⟩)) (.int .i64 page) r1 w1 fun r w' => ∃ ho, OrdR r (serveL page x).2 ho ∧ LeafI W (ho ++ F) g (serveL page x).1 w' ∧ ∀ p ∈ ho, W.heap.size ≤ p.1 := by
    intro x1 o1 r1 h1 w1 hG ho1 hr1 hL1 hh1
    unfold own_leaf_serve_k1
    refine st_call (call_spec page hL1) ?_
    rintro r2 w2 ⟨h2, hr2, ⟨v, hh, hrow, hO, hU, hhs, hg⟩, hh2⟩
    have hSv : serveL page x = ((callL page x1).1, o1 ++ (callL page x1).2) := by unfold serveL; rw [hG]
    have hcl : (callL page x1).2.length ≤ 1 := by unfold callL; split <;> simp
    obtain ⟨inf, hi1, hz1, hs, hb⟩ := inf46
    -- h1 first
    have hP : ((g, leafO (callL page x1).1 v) :: (hh ++ (h2 ++ (h1 ++ F)))).Perm (h1 ++ ((g, leafO (callL page x1).1 v) :: (hh ++ (h2 ++ F)))) := by
      refine List.Perm.trans (List.Perm.cons _ ?_) List.perm_middle.symm
      refine List.Perm.trans (List.Perm.append_left hh (List.perm_append_comm_assoc h2 h1 F)) ?_
      exact List.perm_append_comm_assoc hh h1 (h2 ++ F)
    have hO' := hO.perm hP
    have hrd2 : Rd w2 5 r2 (callL page x1).2.length ((callL page x1).2.flatMap odV) := hr2.rd (F := []) (by rw [List.append_nil]; exact hO.sub (.cons _ (.trans (List.sublist_append_left h2 (h1 ++ F)) (List.sublist_append_right hh _))))
    refine st_append (ks := []) u33 hi1 hz1 hs hb rfl (by omega) hr1 hO' hU (fun q hq => .inr (hh1 q hq)) hrd2 (odV_one _) (by unfold maxLen; omega) (by omega) ?_
    intro v3 w3 h3 hr3 hO3 hU3 hh3
    rw [hSv]
    refine ⟨h3, ?_, ⟨v, hh, hrow, ?_, hU3, hhs, hg⟩, fun q hq => (hh3 q hq).resolve_left (by simp)⟩
    · unfold OrdR
      rw [List.length_append, List.flatMap_append]
      exact hr3
    · have hO4 := hO3.sub (h' := h3 ++ ((g, leafO (callL page x1).1 v) :: (hh ++ F))) (List.Sublist.append (List.Sublist.refl _) (.cons_cons _ (List.Sublist.append (List.Sublist.refl _) (List.sublist_append_right h2 F))))
      refine hO4.perm (List.perm_middle.trans (List.Perm.cons _ ?_))
      exact List.perm_append_comm_assoc h3 hh F
  have h0 := h
  obtain ⟨v, hh, hrow, hO, hU, hhs, hg⟩ := h0
  have hrd := hrow.rd (F := []) (by rw [List.append_nil]; exact hO.sub (.cons _ (List.sublist_append_left _ _)))
  have hrd' := hrd
  obtain ⟨A, c, rfl, hc, _, hcell⟩ := hrd'
  have c0 : w.cell? ⟨g, 0, none⟩ = some (.int .i64 x.owner) := cell_at (hO.at_ 0 rfl)
  have c1 : w.cell? ⟨g, 1, none⟩ = some (.bool x.lost) := cell_at (hO.at_ 0 rfl)
  have c4 : w.cell? ⟨g, 4, none⟩ = some (.slice A x.waits.length c) := cell_at (hO.at_ 0 rfl)
  have skip : ¬ (x.owner = 0 ∧ x.lost = false ∧ x.waits ≠ []) → own_leaf_serve_k1 (std Try.prog) (.pointer (some ⟨g, 0, none⟩)) (.int .i64 page) (.slice none 0 0) w fun r w' => ∃ ho, OrdR r (serveL page x).2 ho ∧ LeafI W (ho ++ F) g (serveL page x).1 w' ∧ ∀ p ∈ ho, W.heap.size ≤ p.1 :=
    fun hn => rest x [] _ [] w (by unfold giveL; rw [if_neg hn]) (by simp) ordR_nil h (fun p hp => by cases hp)
  simp (disch := first | assumption | omega) only [PX, BX, LX, add_mk, Nat.zero_add, own_leaf_serve_k2]
  refine ⟨fun h0 => ?_, fun h0 => skip (by rintro ⟨h, _⟩; exact h0 h)⟩
  rw [bool_var]
  refine ⟨fun h1 => skip (by rintro ⟨_, h, _⟩; rw [h1] at h; cases h), fun h1 => ⟨fun h2 => ?_, fun h2 => skip (by rintro ⟨_, _, h⟩; apply h; exact List.eq_nil_of_length_eq_zero (by omega))⟩⟩
  have hw : x.waits ≠ [] := by intro hw; rw [hw] at h2; simp at h2
  have hwl : 1 ≤ x.waits.length := by omega
  have hG : giveL page x = ({ x with owner := x.waits.headD 0, waits := x.waits.drop 1 }, [⟨1, page, 0, x.waits.headD 0, x.fast⟩]) := by unfold giveL; rw [if_pos ⟨h0, h1, hw⟩]
  obtain ⟨a, rfl, hx0⟩ := hcell 0 _ (head_at hw)
  rw [step_run (run_idxS u36 sz3 (by omega) (by omega)), show Int.toNat 0 * 1 = 0 from rfl]
  simp (disch := first | assumption | omega) only [PX, LX, add_mk, Nat.zero_add]
  refine st_storeB sz3 rfl hU hO 0 rfl (by simp [leafO, cellsL]) (.inr (Nat.zero_le _)) (.inr hg) ?_
  intro w1 hU1 hO1
  have hO1 : Owns w1 ((g, leafO { x with owner := x.waits.headD 0 } (.slice (some a) x.waits.length c)) :: (hh ++ F)) := hO1
  let H := (g, leafO { x with owner := x.waits.headD 0 } (.slice (some a) x.waits.length c)) :: (hh ++ F)
  have hS : SU W H w1.drew := SU.drew hU1 hO1
  have hne : ∃ w', SU W H w' := ⟨_, hS⟩
  have d4 : ∀ w', SU W H w' → w'.cell? ⟨g, 4, none⟩ = some (.slice (some a) x.waits.length c) := fun w' h => cell_at (h.2.at_ 0 rfl)
  refine st_draw (SU W H) hS ?_
  simp (disch := first | assumption | omega) only [SX, SLX, add_mk, Nat.zero_add]
  rw [stepS_run hne fun w' _ => run_rest u36 sz3 hwl hc]
  have hrow2 := hrow.rest hwl
  refine st_storeB sz36 rfl hS.1 hS.2 0 rfl (by simp [leafO, cellsL]) (.inr (Nat.zero_le _)) (.inr hg) ?_
  intro w2 hU2 hO2
  refine st_keepT (fun _ => True) trivial ?_
  have hrow3 : RowO 3 (.slice (if x.waits.length = 1 then some a else (some a).map (·.add 1)) (x.waits.length - 1) (x.waits.length - 1)) (x.waits.drop 1).length (intsV .i64 (x.waits.drop 1)) hh := by
    rw [List.length_drop]
    have : intsV .i64 (x.waits.drop 1) = (intsV .i64 x.waits).drop 1 := by simp [intsV, List.map_drop]
    rw [this]; exact hrow2
  generalize (Value.slice (if x.waits.length = 1 then some a else (some a).map (·.add 1)) (x.waits.length - 1) (x.waits.length - 1)) = v2 at *
  have hO2 : Owns w2 ((g, leafO { x with owner := x.waits.headD 0, waits := x.waits.drop 1 } v2) :: (hh ++ F)) := hO2
  let H2 := (g, leafO { x with owner := x.waits.headD 0, waits := x.waits.drop 1 } v2) :: (hh ++ F)
  have hS2 : SU W H2 w2.drew := SU.drew hU2 hO2
  have hne2 : ∃ w', SU W H2 w' := ⟨_, hS2⟩
  have f0 : ∀ w', SU W H2 w' → w'.cell? ⟨g, 0, none⟩ = some (.int .i64 (x.waits.headD 0)) := fun w' h => cell_at (h.2.at_ 0 rfl)
  have f3 : ∀ w', SU W H2 w' → w'.cell? ⟨g, 3, none⟩ = some (.bool x.fast) := fun w' h => cell_at (h.2.at_ 0 rfl)
  refine st_draw (SU W H2) hS2 ?_
  simp (disch := first | assumption | omega) only [SX, SLX, add_mk, Nat.zero_add]
  rw [step_run (show (sBuild 46 [(0, .int .i64 1), (1, .int .i64 page), (3, .int .i64 (x.waits.headD 0)), (4, .bool x.fast)]).run Try.prog w2.drew = .ok (.value (.agg (odV ⟨1, page, 0, x.waits.headD 0, x.fast⟩).toArray)) w2.drew by kernel_rfl)]
  refine st_same hS2 ?_
  refine st_newRow (od_row _) hS2.1 hS2.2 ?_
  intro g3 w3 hU3 hO3 hg3
  refine st_same ⟨hU3, hO3.sub (.cons _ (List.Sublist.refl _))⟩ ?_
  obtain ⟨inf, hi1, hz1, hs, hb⟩ := inf46
  refine st_append (h := []) (F := (g3, .cells (odV ⟨1, page, 0, x.waits.headD 0, x.fast⟩).toArray 46 (0, 0)) :: H2) (ks := []) u33 hi1 hz1 hs hb rfl (by omega) (RowH.nil_ 46 5) hO3 hU3 (fun q hq => by cases hq) ((ordR_one ⟨1, page, 0, x.waits.headD 0, x.fast⟩ g3).rd (F := H2) hO3) (odV_one [⟨1, page, 0, x.waits.headD 0, x.fast⟩]) (by unfold maxLen; simp) (by simp) ?_
  intro v4 w4 h4 hr4 hO4 hU4 hh4
  refine st_keepT (fun _ => True) trivial ?_
  refine rest _ _ v4 h4 w4 hG (by simp) (by simpa [OrdR] using hr4) ⟨v2, hh, hrow3, ?_, hU4, hhs, hg⟩ (fun q hq => (hh4 q hq).resolve_left (by simp))
  have hO5 := hO4.sub (h' := h4 ++ ((g, leafO { x with owner := x.waits.headD 0, waits := x.waits.drop 1 } v2) :: (hh ++ F))) (List.Sublist.append (List.Sublist.refl _) (.cons _ (List.Sublist.refl _)))
  refine hO5.perm (List.perm_middle.trans (List.Perm.cons _ ?_))
  exact List.perm_append_comm_assoc h4 hh F
end Go.Proofs.Ytilfkccahlkcaaa
