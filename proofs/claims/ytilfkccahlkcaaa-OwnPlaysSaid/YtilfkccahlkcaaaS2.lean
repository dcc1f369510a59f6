/- Books: find, known, Contains, Owner, Lost, Fast. -/
import Derived.Test.YtilfkccahlkcaaaS
namespace Go.Proofs.Ytilfkccahlkcaaa
open Go Xf Go.RowKit
set_option linter.unusedVariables false
set_option linter.unusedSimpArgs false
set_option maxRecDepth 100000

theorem perm_eraseIdx {α : Type} : ∀ (l : List α) (i : Nat) (h : i < l.length), l.Perm (l[i] :: l.eraseIdx i)
  | a :: l, 0, _ => List.Perm.refl _
  | a :: l, i + 1, h => by
    have := perm_eraseIdx l i (by simpa using h)
    exact (List.Perm.cons a this).trans (List.Perm.swap _ _ _)
theorem perm_set {α : Type} (b : α) : ∀ (l : List α) (i : Nat) (h : i < l.length), (l.set i b).Perm (b :: l.eraseIdx i)
  | a :: l, 0, _ => List.Perm.refl _
  | a :: l, i + 1, h => by
    have := perm_set b l i (by simpa using h)
    exact (List.Perm.cons a this).trans (List.Perm.swap _ _ _)

theorem nP {x y : Operand} {a : Addr} {w : World} : (sBin .eql 25 x y (.pointer (some a)) (.pointer none)).run Try.prog w = .ok (.value (.bool false)) w := by kernel_rfl
theorem nP0 {x y : Operand} {w : World} : (sBin .eql 25 x y (.pointer none) (.pointer none)).run Try.prog w = .ok (.value (.bool true)) w := by kernel_rfl
theorem nQ {x y : Operand} {a : Addr} {w : World} : (sBin .neq 25 x y (.pointer (some a)) (.pointer none)).run Try.prog w = .ok (.value (.bool true)) w := by kernel_rfl
theorem nQ0 {x y : Operand} {w : World} : (sBin .neq 25 x y (.pointer none) (.pointer none)).run Try.prog w = .ok (.value (.bool false)) w := by kernel_rfl
theorem mP {x y : Operand} {a : Addr} {w : World} : (sBin .eql 61 x y (.pointer (some a)) (.pointer none)).run Try.prog w = .ok (.value (.bool false)) w := by kernel_rfl
theorem mP0 {x y : Operand} {w : World} : (sBin .eql 61 x y (.pointer none) (.pointer none)).run Try.prog w = .ok (.value (.bool true)) w := by kernel_rfl
theorem mQ {x y : Operand} {a : Addr} {w : World} : (sBin .neq 61 x y (.pointer (some a)) (.pointer none)).run Try.prog w = .ok (.value (.bool true)) w := by kernel_rfl
theorem mQ0 {x y : Operand} {w : World} : (sBin .neq 61 x y (.pointer none) (.pointer none)).run Try.prog w = .ok (.value (.bool false)) w := by kernel_rfl
theorem NP : (∀ {x y : Operand} {a : Addr} {w : World} {K : Value → World → Prop}, (std Try.prog).step (sBin .eql 25 x y (.pointer (some a)) (.pointer none)) w K = K (.bool false) w) ∧
  (∀ {x y : Operand} {w : World} {K : Value → World → Prop}, (std Try.prog).step (sBin .eql 25 x y (.pointer none) (.pointer none)) w K = K (.bool true) w) ∧
  (∀ {x y : Operand} {a : Addr} {w : World} {K : Value → World → Prop}, (std Try.prog).step (sBin .neq 25 x y (.pointer (some a)) (.pointer none)) w K = K (.bool true) w) ∧
  (∀ {x y : Operand} {w : World} {K : Value → World → Prop}, (std Try.prog).step (sBin .neq 25 x y (.pointer none) (.pointer none)) w K = K (.bool false) w) ∧
  (∀ {x y : Operand} {a : Addr} {w : World} {K : Value → World → Prop}, (std Try.prog).step (sBin .eql 61 x y (.pointer (some a)) (.pointer none)) w K = K (.bool false) w) ∧
  (∀ {x y : Operand} {w : World} {K : Value → World → Prop}, (std Try.prog).step (sBin .eql 61 x y (.pointer none) (.pointer none)) w K = K (.bool true) w) ∧
  (∀ {x y : Operand} {a : Addr} {w : World} {K : Value → World → Prop}, (std Try.prog).step (sBin .neq 61 x y (.pointer (some a)) (.pointer none)) w K = K (.bool true) w) ∧
  (∀ {x y : Operand} {w : World} {K : Value → World → Prop}, (std Try.prog).step (sBin .neq 61 x y (.pointer none) (.pointer none)) w K = K (.bool false) w) :=
  ⟨step_run nP, step_run nP0, step_run nQ, step_run nQ0, step_run mP, step_run mP0, step_run mQ, step_run mQ0⟩

structure LB where
  x : Lf
  g : Nat
  v : Value
  h : List (Nat × Obj)
def LB.blk (b : LB) : List (Nat × Obj) := (b.g, leafO b.x b.v) :: b.h
def LB.ok (b : LB) : Prop := RowO 3 b.v b.x.waits.length (intsV .i64 b.x.waits) b.h
def LB.p (b : LB) : Value := .pointer (some ⟨b.g, 0, none⟩)
def restO (gb : Nat) (vl : Value) (hl : List (Nat × Obj)) : List (Nat × Obj) := (gb, .cells #[vl] 60 (0, 0)) :: hl
/-- a book: block gb, the slice vl of its leaves' pointers in hl, its leaves bs -/
structure BookI (W : World) (F : List (Nat × Obj)) (gb : Nat) (vl : Value) (hl : List (Nat × Obj)) (bs : List LB) (w : World) : Prop where
  ok : ∀ b ∈ bs, b.ok
  row : RowH 61 1 vl bs.length (bs.map LB.p) hl
  own : Owns w (bs.flatMap LB.blk ++ (restO gb vl hl ++ F))
  upd : Upd W w []
  new : ∀ b ∈ bs, ∀ p ∈ b.blk, W.heap.size ≤ p.1
  new2 : ∀ p ∈ restO gb vl hl, W.heap.size ≤ p.1
def Bk (W : World) (F : List (Nat × Obj)) (gb : Nat) (xs : List Lf) (w : World) : Prop := ∃ vl hl bs, BookI W F gb vl hl bs w ∧ bs.map LB.x = xs

section
variable {W w : World} {F : List (Nat × Obj)} {gb : Nat} {vl : Value} {hl : List (Nat × Obj)} {bs : List LB}
def restB (F : List (Nat × Obj)) (gb : Nat) (vl : Value) (hl : List (Nat × Obj)) (bs : List LB) (i : Nat) : List (Nat × Obj) := (bs.eraseIdx i).flatMap LB.blk ++ (restO gb vl hl ++ F)
theorem BookI.cellB (h : BookI W F gb vl hl bs w) : w.cell? ⟨gb, 0, none⟩ = some vl := by
  have := h.own.2 (gb, .cells #[vl] 60 (0, 0)) (List.mem_append_right _ (by simp [restO]))
  exact cell_at this
theorem BookI.rowRd (h : BookI W F gb vl hl bs w) : Rd w 1 vl bs.length (bs.map LB.p) := by
  refine h.row.rd (F := []) ?_
  rw [List.append_nil]
  exact h.own.sub (.trans (.trans (.cons _ (List.sublist_append_left hl F)) (List.Sublist.refl _)) (List.sublist_append_right _ _))
theorem BookI.focus (h : BookI W F gb vl hl bs w) {i : Nat} (hi : i < bs.length) : LeafI W (restB F gb vl hl bs i) bs[i].g bs[i].x w := by
  have hm : bs[i] ∈ bs := List.getElem_mem hi
  refine ⟨bs[i].v, bs[i].h, h.ok _ hm, ?_, h.upd, fun p hp => h.new _ hm p (.tail _ hp), h.new _ hm (bs[i].g, leafO bs[i].x bs[i].v) (.head _)⟩
  have hp := List.Perm.append_right (restO gb vl hl ++ F) (List.Perm.flatMap_right LB.blk (perm_eraseIdx bs i hi))
  have := h.own.perm hp
  simp only [List.flatMap_cons, List.append_assoc] at this
  exact this
theorem BookI.back (h : BookI W F gb vl hl bs w) {i : Nat} (hi : i < bs.length) {ho : List (Nat × Obj)} {x' : Lf} {w' : World} (hL : LeafI W (ho ++ restB F gb vl hl bs i) bs[i].g x' w') :
    ∃ b', b'.x = x' ∧ b'.g = bs[i].g ∧ BookI W (ho ++ F) gb vl hl (bs.set i b') w' := by
  obtain ⟨v, hh, hrow, hO, hU, hhs, hg⟩ := hL
  refine ⟨⟨x', bs[i].g, v, hh⟩, rfl, rfl, ?_, ?_, ?_, hU, ?_, h.new2⟩
  · intro b hb
    rcases List.mem_or_eq_of_mem_set hb with hb | rfl
    · exact h.ok b hb
    · exact hrow
  · rw [List.length_set, List.map_set]
    have : (bs.map LB.p).set i (LB.p ⟨x', bs[i].g, v, hh⟩) = bs.map LB.p := by
      apply List.ext_getElem (by simp)
      intro j h1 h2
      rw [List.getElem_set]
      split
      · rename_i he; subst he; simp [LB.p]
      · rfl
    rw [this]
    exact h.row
  · have hp := List.Perm.append_right (restO gb vl hl ++ (ho ++ F)) (List.Perm.flatMap_right LB.blk (perm_set (⟨x', bs[i].g, v, hh⟩ : LB) bs i hi))
    refine hO.perm (List.Perm.trans ?_ hp.symm)
    simp only [List.flatMap_cons, List.append_assoc, restB, LB.blk, List.cons_append]
    refine List.Perm.cons _ (List.Perm.append_left hh ?_)
    refine (List.perm_append_comm_assoc ho _ _).trans (List.Perm.append_left _ ?_)
    exact List.perm_append_comm_assoc ho _ _
  · intro b hb p hp
    rcases List.mem_or_eq_of_mem_set hb with hb | rfl
    · exact h.new b hb p hp
    · cases hp with
      | head => exact hg
      | tail _ hp => exact hhs p hp
theorem BookI.pt (h : BookI W F gb vl hl bs w) {i : Nat} (hi : i < bs.length) : ∃ a c, vl = .slice (some a) bs.length c ∧ w.cell? (a.add i) = some bs[i].p := by
  obtain ⟨a, c, u, h1, h2, h3⟩ := h.rowRd.at_ hi
  rw [List.getElem?_map, List.getElem?_eq_getElem hi] at h2
  injection h2 with h2
  exact ⟨a, c, h1, by rw [h3, h2]⟩
theorem BookI.len (h : BookI W F gb vl hl bs w) : ∃ A c, vl = .slice A bs.length c := by
  obtain ⟨A, c, h1, _⟩ := h.rowRd
  exact ⟨A, c, h1⟩
end

theorem known_spec (a : Int) (w : World) : CallsR Try.prog 27 #[.int .i64 a] w fun r w' => r = .bool (decide (1 ≤ a ∧ a ≤ 8)) ∧ w' = w := by
  apply own_known_sound
  unfold own_known_x
  simp (disch := omega) only [PX, BX]
  refine ⟨fun h => ⟨?_, trivial⟩, fun h => ⟨?_, trivial⟩⟩
  · simp [h]
  · simp [h]

theorem find_nil (page : Int) (w : World) : CallsR Try.prog 26 #[.pointer none, .int .i64 page] w fun r w' => r = .pointer none ∧ w' = w := by
  apply own_Book_find_sound
  unfold own_Book_find_x
  simp only [NP, BX, own_Book_find_k1]
  exact ⟨trivial, trivial⟩
theorem find_spec {W w : World} {F : List (Nat × Obj)} {gb : Nat} {vl : Value} {hl : List (Nat × Obj)} {bs : List LB} (h : BookI W F gb vl hl bs w) (page : Int) :
    CallsR Try.prog 26 #[.pointer (some ⟨gb, 0, none⟩), .int .i64 page] w fun r w' => w' = w ∧ ((∃ (i : Nat) (hi : i < bs.length), page = i ∧ r = bs[i].p) ∨ (¬ (0 ≤ page ∧ page < bs.length) ∧ r = .pointer none)) := by
  apply own_Book_find_sound
  unfold own_Book_find_x
  have hB := h.cellB
  obtain ⟨A, c, hv⟩ := h.len
  subst hv
  simp (disch := first | assumption | omega) only [NP, PX, BX, LX, add_mk, own_Book_find_k1]
  refine ⟨fun h0 => ⟨trivial, .inr ⟨by omega, trivial⟩⟩, fun h0 => ⟨fun h1 => ⟨trivial, .inr ⟨by omega, trivial⟩⟩, fun h1 => ?_⟩⟩
  obtain ⟨i, rfl⟩ : ∃ i : Nat, page = i := ⟨page.toNat, by omega⟩
  have hi : i < bs.length := by omega
  obtain ⟨a, c', he, hc⟩ := h.pt hi
  injection he with he1 _ _
  subst he1
  simp (disch := first | assumption | omega) only [PX, LX, Nat.mul_one]
  exact ⟨trivial, .inl ⟨i, hi, rfl, rfl⟩⟩

theorem Index_spec {w : World} {v : Value} {l : List Int} (a : Int) (hr : Rd w 1 v l.length (intsV .i64 l)) (hb : l.length < 9223372036854775807) :
    CallsR Try.prog 37 #[v, .int .i64 a] w fun r w' => w' = w ∧ ∃ n : Int, r = .int .i64 n ∧ (0 ≤ n ↔ a ∈ l) := by
  apply slices_Index_int_int_sound
  unfold slices_Index_int_int_x
  obtain ⟨A, c, rfl, hc, _, hrd⟩ := hr
  simp (disch := omega) only [PX]
  refine st_loop (fun vs w' => w' = w ∧ ∃ i : Nat, vs.getD 2 undef = .int .i64 i ∧ i ≤ l.length ∧ a ∉ l.take i) (fun vs _ => l.length - (intOf (vs.getD 2 undef)).toNat) ⟨rfl, 0, rfl, by omega, by simp⟩ ?_
  rintro dv vs w' - ⟨rfl, i, e2, hi, hn⟩
  simp (disch := omega) only [e2, PX, BX]
  refine ⟨fun hlt => ?_, fun hge => ?_⟩
  · have hlt' : i < l.length := by omega
    obtain ⟨a', rfl, hx⟩ := hrd i (.int .i64 l[i]) (by simp [intsV, hlt'])
    simp (disch := first | assumption | omega) only [PX, LX, BX, Nat.mul_one, w64]
    refine ⟨fun he => ⟨trivial, i, rfl, ?_⟩, fun he => ⟨⟨trivial, i + 1, rfl, by omega, ?_⟩, ?_⟩⟩
    · refine ⟨fun _ => ?_, fun _ => by omega⟩
      rw [he]; exact List.getElem_mem hlt'
    · rw [List.take_succ_eq_append_getElem hlt', List.mem_append, List.mem_singleton]
      rintro (h | h)
      · exact hn h
      · exact he h
    · simp only [List.getD_cons_zero, List.getD_cons_succ, intOf]; omega
  · unfold slices_Index_int_int_k1
    refine ⟨rfl, -1, rfl, ⟨fun h => by omega, fun h => ?_⟩⟩
    rw [List.take_of_length_le (by omega)] at hn
    exact absurd h hn
theorem Contains_spec {w : World} {v : Value} {l : List Int} (a : Int) (hr : Rd w 1 v l.length (intsV .i64 l)) (hb : l.length < 9223372036854775807) :
    CallsR Try.prog 28 #[v, .int .i64 a] w fun r w' => r = .bool (decide (a ∈ l)) ∧ w' = w := by
  apply slices_Contains_int_int_sound
  unfold slices_Contains_int_int_x
  refine st_call (Index_spec a hr hb) ?_
  rintro _ _ ⟨rfl, n, rfl, hn⟩
  simp (disch := omega) only [PX]
  refine ⟨?_, trivial⟩
  congr 1
  exact decide_eq_decide.2 hn
end Go.Proofs.Ytilfkccahlkcaaa
