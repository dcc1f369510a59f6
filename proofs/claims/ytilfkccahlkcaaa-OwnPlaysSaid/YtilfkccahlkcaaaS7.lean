/- New; the nil book. -/
import Derived.Test.YtilfkccahlkcaaaS6
namespace Go.Proofs.Ytilfkccahlkcaaa
open Go Xf Go.RowKit
set_option linter.unusedVariables false
set_option linter.unusedSimpArgs false
set_option maxRecDepth 100000

def boolsV (l : List Bool) : List Value := l.map .bool
def newL (pages : Nat) (fl : List Bool) : List Lf := (List.range pages).map fun i => ⟨0, false, false, fl.getD i false, []⟩
theorem newL_len (p : Nat) (fl : List Bool) : (newL p fl).length = p := by simp [newL]
theorem newL_succ (p : Nat) (fl : List Bool) : newL (p + 1) fl = newL p fl ++ [⟨0, false, false, fl.getD p false, []⟩] := by simp [newL, List.range_succ]

section
variable {W w : World} {F : List (Nat × Obj)}
theorem bld60 (w : World) : (sBuild 60 []).run Try.prog w = .ok (.value (.agg #[.slice none 0 0])) w := by kernel_rfl
theorem bld63 (b : Bool) (w : World) : (sBuild 63 [(3, .bool b)]).run Try.prog w = .ok (.value (.agg (cellsL ⟨0, false, false, b, []⟩ (.slice none 0 0)))) w := by kernel_rfl
theorem row58 (g : Nat) (w : World) : (sBuildSlice 58 1 [(0, .pointer (some ⟨g, 0, none⟩))]).run Try.prog w = .ok (.value (.slice (some ⟨w.heap.size, 0, none⟩) 1 1)) (w.alloc (.cells #[.pointer (some ⟨g, 0, none⟩)] 61)) := by kernel_rfl

/-- what New answers -/
def NewR (W : World) (F : List (Nat × Obj)) (pages : Int) (fl : List Bool) (r : Value) (w' : World) : Prop :=
  if pages < 1 ∨ 16 < pages ∨ pages < fl.length then r = .tuple #[.pointer none, .int .i64 1] ∧ Upd W w' [] ∧ Owns w' F
  else ∃ gb, r = .tuple #[.pointer (some ⟨gb, 0, none⟩), .int .i64 0] ∧ Bk W F gb (newL pages.toNat fl) w'

theorem New_spec (hU : Upd W w []) (hO : Owns w F) {v : Value} {fl : List Bool} (hv : ∀ w', Upd W w' [] → Owns w' F → Rd w' 1 v fl.length (boolsV fl)) (pages : Int) :
    CallsR Try.prog 10 #[.int .i64 pages, v] w fun r w' => NewR W F pages fl r w' := by
  apply own_New_sound
  unfold own_New_x
  obtain ⟨A, c, rfl, hc, _, _⟩ := hv w hU hO
  have bad : (pages < 1 ∨ 16 < pages ∨ pages < fl.length) → NewR W F pages fl (.tuple #[.pointer none, .int .i64 1]) w := fun h => by
    unfold NewR; rw [if_pos h]; exact ⟨rfl, hU, hO⟩
  simp (disch := omega) only [PX, BX, own_New_k1]
  refine ⟨fun h => bad (.inl h), fun h1 => ⟨fun h => bad (.inr (.inl h)), fun h16 => ⟨fun h => bad (.inr (.inr h)), fun hf => ?_⟩⟩⟩
  obtain ⟨pn, rfl⟩ : ∃ n : Nat, pages = n := ⟨pages.toNat, by omega⟩
  rw [step_run (bld60 w)]
  refine st_box hU hO ?_
  intro gb w1 hU1 hO1 hgb
  refine st_loop (fun vs w' => ∃ (i : Nat) (vl : Value) (hl : List (Nat × Obj)) (bs : List LB), i ≤ pn ∧ vs.getD 1 undef = .int .i64 i ∧ BookI W F gb vl hl bs w' ∧ bs.map LB.x = newL i fl)
    (fun vs _ => pn - (intOf (vs.getD 1 undef)).toNat) ⟨0, .slice none 0 0, [], [], by omega, rfl, ⟨fun b hb => (by cases hb), RowH.nil_ _ _, hO1, hU1, fun b hb => (by cases hb), fun p hp => by rw [restO, List.mem_singleton] at hp; rw [hp]; exact hgb⟩, rfl⟩ ?_
  clear hU1 hO1 hU hO bad
  rintro dv vs w - ⟨i, vl, hl, bs, hi, e1, hB, hx⟩
  have hbl : bs.length = i := by rw [← newL_len i fl, ← hx, List.length_map]
  simp (disch := omega) only [e1, PX, BX]
  refine ⟨fun hlt => ?_, fun hge => ?_⟩
  rotate_left
  · have : i = pn := by omega
    subst this
    unfold own_New_k2
    show NewR _ _ _ _ _ _
    unfold NewR
    rw [if_neg (by omega)]
    exact ⟨gb, rfl, vl, hl, bs, hB, by rw [hx]; rfl⟩
  have hlt' : i < pn := by omega
  -- what is read is read in each of these worlds
  let S : World → Prop := fun w' => w'.cell? ⟨gb, 0, none⟩ = some vl ∧ Rd w' 1 (.slice A fl.length c) fl.length (boolsV fl)
  have hFO : ∀ {w' : World} {h : List (Nat × Obj)}, Owns w' (h ++ (restO gb vl hl ++ F)) → Owns w' F := fun h => h.sub (.trans (List.sublist_append_right _ F) (List.sublist_append_right _ _))
  have hS0 : S w.drew := by
    have hU : Upd W w.drew [] := hB.upd.trans (Upd.drew w [])
    have hO : Owns w.drew (bs.flatMap LB.blk ++ (restO gb vl hl ++ F)) := hB.own.ext (Upd.drew w [])
    exact ⟨(hB.ext hO hU).cellB, hv _ hU (hFO hO)⟩
  have hU0 : Upd W w.drew [] := hB.upd.trans (Upd.drew w [])
  have hO0 : Owns w.drew (bs.flatMap LB.blk ++ (restO gb vl hl ++ F)) := hB.own.ext (Upd.drew w [])
  have hne : ∃ w', S w' := ⟨_, hS0⟩
  have d0 : ∀ w', S w' → w'.cell? ⟨gb, 0, none⟩ = some vl := fun w' h => h.1
  -- behind the flag
  have rest : ∀ (b : Bool) (K : Value → World → Prop), (∀ v' w', (∃ hl' bs', BookI W F gb v' hl' bs' w' ∧ bs'.map LB.x = newL i fl ++ [⟨0, false, false, b, []⟩]) → K undef w') →
      (std Try.prog).step (sBuild 63 [(3, .bool b)]) w.drew fun v41 w => (std Try.prog).keepS S w fun S2 => (std Try.prog).step (sBox 63 v41) w fun v42 w => (std Try.prog).keepS S2 w fun S3 =>
        (std Try.prog).step (sBuildSlice 58 1 [(0, v42)]) w fun v43 w => (std Try.prog).keepS S3 w fun S4 => (std Try.prog).step (sBuiltin .append #[58, 58] 58 [false, false] [vl, v43]) w fun v44 w => (std Try.prog).keepS S4 w fun S5 =>
        (std Try.prog).stepS S5 (sNil (.pointer (some ⟨gb, 0, none⟩))) fun v45 => (std Try.prog).stepS S5 (sFieldAddr 60 v45 0) fun v46 => (std Try.prog).step (sStore 58 v46 v44) w fun vx w => (std Try.prog).keepT w fun S6 => K vx w := by
    intro b K hK
    rw [step_run (bld63 b w.drew)]
    refine st_same hS0 ?_
    refine st_box hU0 hO0 ?_
    intro g2 w2 hU2 hO2 hg2
    have hO2 : Owns w2 ((g2, leafO ⟨0, false, false, b, []⟩ (.slice none 0 0)) :: (bs.flatMap LB.blk ++ (restO gb vl hl ++ F))) := hO2
    have sOf : ∀ {w' : World} {h : List (Nat × Obj)}, Upd W w' [] → Owns w' (h ++ (restO gb vl hl ++ F)) → S w' := fun hU hO => ⟨cell_at (hO.2 (gb, .cells #[vl] 60 (0, 0)) (List.mem_append_right _ (.head _))), hv _ hU (hFO hO)⟩
    refine st_same (sOf (h := _ :: _) hU2 hO2) ?_
    refine st_newRow (row58 g2) hU2 hO2 ?_
    intro g3 w3 hU3 hO3 hg3
    refine st_same (sOf (h := _ :: _ :: _) hU3 hO3) ?_
    have hrd : Rd w3 1 (.slice (some ⟨g3, 0, none⟩) 1 1) 1 [.pointer (some ⟨g2, 0, none⟩)] := rd_row (hO3.at_ 0 rfl) rfl (by omega) rfl
    let X : List (Nat × Obj) := (g3, Obj.cells #[.pointer (some ⟨g2, 0, none⟩)] 61 (0, 0)) :: (g2, leafO ⟨0, false, false, b, []⟩ (.slice none 0 0)) :: bs.flatMap LB.blk
    have hO3 : Owns w3 (X ++ (restO gb vl hl ++ F)) := hO3
    have hP : (X ++ (restO gb vl hl ++ F)).Perm (hl ++ ((gb, .cells #[vl] 60 (0, 0)) :: (X ++ F))) := by
      refine (List.perm_middle (l₁ := X)).trans ?_
      exact (List.Perm.cons _ (List.perm_append_comm_assoc X hl F)).trans List.perm_middle.symm
    obtain ⟨inf, hi1, hz1, hs, hb⟩ := inf61
    refine st_append (ks := []) u58 hi1 hz1 hs hb rfl (by omega) hB.row (hO3.perm hP) hU3 (fun q hq => .inr (hB.new2 q (.tail _ hq))) hrd (fun y hy => by rw [List.mem_singleton] at hy; rw [hy]; rfl) (by unfold maxLen; omega) (by omega) ?_
    intro v4 w4 h4 hr4 hO4 hU4 hh4
    have hO4 := hO4.perm List.perm_middle
    have hS4 : S w4 := ⟨cell_at (hO4.at_ 0 rfl), hv _ hU4 (hO4.sub (.cons _ (.trans (List.sublist_append_right X F) (List.sublist_append_right h4 _))))⟩
    refine st_same hS4 ?_
    simp (disch := first | assumption | omega) only [SX, SLX]
    have hv4 : oneB v4 = true := by
      obtain ⟨A', c', he, _⟩ := hr4.rd (w := w4) (F := []) (by rw [List.append_nil]; exact hO4.sub (.cons _ (List.sublist_append_left h4 _)))
      rw [he]; rfl
    refine st_storeB sz58 hv4 hU4 hO4 0 rfl (by simp) (.inr (Nat.zero_le _)) (.inr hgb) ?_
    intro w5 hU5 hO5
    have hO5 : Owns w5 ((gb, .cells #[v4] 60 (0, 0)) :: (h4 ++ (X ++ F))) := hO5
    refine st_keepT (fun _ => True) trivial ?_
    refine hK v4 w5 ⟨h4, bs ++ [⟨⟨0, false, false, b, []⟩, g2, .slice none 0 0, []⟩], ⟨?_, ?_, ?_, hU5, ?_, ?_⟩, by rw [List.map_append, hx]; rfl⟩
    · intro y hy
      rcases List.mem_append.1 hy with hy | hy
      · exact hB.ok y hy
      · rw [List.mem_singleton] at hy
        rw [hy]; exact RowO.nil_ 3
    · rw [List.length_append, List.map_append]
      exact hr4
    · have hO6 := hO5.sub (h' := (gb, .cells #[v4] 60 (0, 0)) :: (h4 ++ (((g2, leafO ⟨0, false, false, b, []⟩ (.slice none 0 0)) :: bs.flatMap LB.blk) ++ F))) (.cons_cons _ (List.Sublist.append (List.Sublist.refl _) (List.Sublist.append (.cons _ (List.Sublist.refl _)) (List.Sublist.refl _))))
      refine hO6.perm ?_
      refine (List.Perm.cons _ (List.perm_append_comm_assoc h4 _ F)).trans ?_
      refine (List.perm_middle (l₁ := (g2, leafO ⟨0, false, false, b, []⟩ (.slice none 0 0)) :: bs.flatMap LB.blk)).symm.trans ?_
      refine List.Perm.append_right _ ?_
      rw [List.flatMap_append]
      exact (List.perm_append_comm (l₁ := [(g2, leafO ⟨0, false, false, b, []⟩ (.slice none 0 0))]) (l₂ := bs.flatMap LB.blk))
    · intro y hy
      rcases List.mem_append.1 hy with hy | hy
      · exact hB.new y hy
      · rw [List.mem_singleton] at hy
        subst hy
        intro p hp
        simp only [LB.blk, List.mem_singleton] at hp
        rw [hp]; exact hg2
    · intro p hp
      cases hp with
      | head => exact hgb
      | tail _ hp => exact (hh4 p hp).resolve_left (by simp)
  have done_ : ∀ (b : Bool) (v' : Value) (w' : World), b = fl.getD i false → (∃ hl' bs', BookI W F gb v' hl' bs' w' ∧ bs'.map LB.x = newL i fl ++ [⟨0, false, false, b, []⟩]) →
      own_New_k3 (std Try.prog) vs (fun vs' w' => (∃ (i : Nat) (vl : Value) (hl : List (Nat × Obj)) (bs : List LB), i ≤ pn ∧ vs'.getD 1 undef = .int .i64 i ∧ BookI W F gb vl hl bs w' ∧ bs.map LB.x = newL i fl) ∧ pn - (intOf (vs'.getD 1 undef)).toNat < pn - (intOf (Value.int .i64 (i : Int))).toNat) (.int .i64 i) w' fun r w' => NewR W F (pn : Int) fl r w' := by
    rintro b v' w' hb ⟨hl', bs', hB', hx'⟩
    unfold own_New_k3
    simp (disch := omega) only [e1, PX, w64]
    refine ⟨⟨i + 1, v', hl', bs', by omega, rfl, hB', by rw [hx', newL_succ, hb]⟩, ?_⟩
    simp only [List.getD_cons_zero, List.getD_cons_succ, intOf]; omega
  refine st_draw S hS0 ?_
  simp (disch := first | assumption | omega) only [SX, SLX, BX, add_mk, Nat.zero_add]
  refine ⟨fun hf => ?_, fun hf => ?_⟩
  · have hif : i < fl.length := by omega
    have dx : ∃ a, A = some a ∧ ∀ w', S w' → w'.cell? (a.add i) = some (.bool fl[i]) := by
      have : ∀ w', S w' → ∃ a, A = some a ∧ w'.cell? (a.add i) = some (.bool fl[i]) := by
        intro w' hs
        obtain ⟨A', c', he, _, _, hcell⟩ := hs.2
        injection he with he1 _ _
        subst he1
        exact hcell i (.bool fl[i]) (by simp [boolsV, hif])
      obtain ⟨a, ha, _⟩ := this _ hS0
      refine ⟨a, ha, fun w' hs => ?_⟩
      obtain ⟨a', ha', hc⟩ := this w' hs
      rw [ha] at ha'
      injection ha' with ha'
      rw [ha']; exact hc
    obtain ⟨a, rfl, dx⟩ := dx
    simp (disch := first | assumption | omega) only [SX, SLX, BX, Nat.mul_one]
    exact rest fl[i] _ fun v' w' h => done_ fl[i] v' w' (by simp [List.getD_eq_getElem?_getD, hif]) h
  · exact rest false _ fun v' w' h => done_ false v' w' (by rw [List.getD_eq_getElem?_getD, List.getElem?_eq_none (by omega)]; rfl) h
end
end Go.Proofs.Ytilfkccahlkcaaa
