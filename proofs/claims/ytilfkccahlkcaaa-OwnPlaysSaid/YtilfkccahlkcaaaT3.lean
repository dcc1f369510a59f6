/- The plain law of OwnTurns and OwnEnds. -/
import Derived.Test.YtilfkccahlkcaaaS13
namespace Go.Proofs.Ytilfkccahlkcaaa
open Go Xf Go.RowKit
set_option linter.unusedVariables false
set_option linter.unusedSimpArgs false
set_option maxRecDepth 100000

def playL (xs : List Lf) (o : Op3) : List Lf × List Od :=
  if o.kind = 0 then ((needL xs o.page o.inst).1, (needL xs o.page o.inst).2.1)
  else if o.kind = 1 then ((backL xs o.page o.inst).1, (backL xs o.page o.inst).2.1)
  else if o.kind = 2 then ((failL xs o.inst).1, [])
  else if o.kind = 3 then ((mendL xs o.page).1, (mendL xs o.page).2.1)
  else (xs, [])
theorem play_inv {xs : List Lf} (h : Inv xs) (o : Op3) : Inv (playL xs o).1 ∧ (playL xs o).1.length = xs.length := by
  unfold playL
  split
  · have := need_law h o.page o.inst; exact ⟨this.1, this.2.1⟩
  split
  · have := back_law h o.page o.inst; exact ⟨this.1, this.2.1⟩
  split
  · exact ⟨fail_inv h _, fail_length _ _⟩
  split
  · have := mend_law h o.page; exact ⟨this.1, this.2.1⟩
  · exact ⟨h, rfl⟩

/-- the orders by which a page goes to a, when r wait behind it -/
def giveO (p : Int) (f : Bool) (a : Int) : List Int → List Od
  | [] => [⟨1, p, 0, a, f⟩]
  | b :: _ => [⟨1, p, 0, a, f⟩, ⟨2, p, a, b, f⟩]
theorem giveO_len (p : Int) (f : Bool) (a : Int) (r : List Int) : (giveO p f a r).length = if r = [] then 1 else 2 := by
  cases r <;> simp [giveO]
theorem serve_give (p : Int) {x : Lf} (h : PInv x) (ho : x.owner = 0) (hl : x.lost = false) {a : Int} {r : List Int} (hw : x.waits = a :: r) :
    serveL p x = (⟨a, false, decide (r ≠ []), x.fast, r⟩, giveO p x.fast a r) := by
  have ha := h.wb a (by rw [hw]; exact .head _)
  have hc := h.ca ho
  obtain ⟨o, l, c, f, ws⟩ := x
  simp only at ho hl hw hc ⊢
  subst ho hl hw hc
  have ha0 : a ≠ 0 := by omega
  cases r with
  | nil => simp [serveL, giveL, callL, giveO]
  | cons b r => simp [serveL, giveL, callL, giveO, ha0]
theorem serve_none (p : Int) {x : Lf} (h : PInv x) (hw : x.waits = []) : serveL p x = (x, []) := by
  obtain ⟨o, l, c, f, ws⟩ := x
  simp only at hw ⊢
  subst hw
  simp [serveL, giveL, callL]

theorem back_give {xs : List Lf} (h : Inv xs) {p : Nat} (hp : p < xs.length) (ho : (lfAt xs (p : Int)).owner ≠ 0) {a : Int} {r : List Int} (hw : (lfAt xs (p : Int)).waits = a :: r) :
    backL xs p (lfAt xs (p : Int)).owner = (xs.set p ⟨a, false, decide (r ≠ []), (lfAt xs (p : Int)).fast, r⟩, giveO p (lfAt xs (p : Int)).fast a r, 0) := by
  have hx := h.at_ (p : Int)
  unfold backL
  generalize lfAt xs (p : Int) = x at *
  have hob := hx.ob
  rw [if_pos ⟨by omega, by omega, by omega, by omega⟩, if_pos rfl]
  have hl : x.lost = false := by cases hl : x.lost; rfl; exact absurd (hx.lo hl) ho
  have hP : PInv { x with owner := 0, called := false } := by
    refine ⟨hx.nd, hx.wb, .inl rfl, fun hk => ?_, fun _ => rfl, fun _ => rfl⟩
    have := hx.wb _ hk
    simp only at this
    omega
  rw [serve_give (p : Int) hP rfl hl hw, Int.toNat_natCast]
theorem mend_give {xs : List Lf} (h : Inv xs) {p : Nat} (hp : p < xs.length) (hl : (lfAt xs (p : Int)).lost = true) :
    ((lfAt xs (p : Int)).waits = [] ∧ mendL xs p = (xs.set p { lfAt xs (p : Int) with lost := false }, [], 0)) ∨
    (∃ a r, (lfAt xs (p : Int)).waits = a :: r ∧ mendL xs p = (xs.set p ⟨a, false, decide (r ≠ []), (lfAt xs (p : Int)).fast, r⟩, giveO p (lfAt xs (p : Int)).fast a r, 0)) := by
  have hx := h.at_ (p : Int)
  unfold mendL
  generalize lfAt xs (p : Int) = x at *
  rw [if_pos ⟨by omega, by omega⟩, if_pos hl]
  have ho := hx.lo hl
  have hP : PInv { x with lost := false } := ⟨hx.nd, hx.wb, hx.ob, hx.ow, fun hh => (by cases hh), hx.ca⟩
  cases hw : x.waits with
  | nil =>
    refine .inl ⟨rfl, ?_⟩
    rw [serve_none _ hP hw, Int.toNat_natCast]
  | cons a r =>
    refine .inr ⟨a, r, rfl, ?_⟩
    rw [serve_give _ hP ho rfl hw, Int.toNat_natCast]
theorem lfAt_set_self {xs : List Lf} {p : Nat} (hp : p < xs.length) (x : Lf) : lfAt (xs.set p x) (p : Int) = x := by rw [lfAt_set hp, if_pos rfl]

/-- it is their turn: row's rest waits for a page that somebody has -/
def Turn (xs : List Lf) (p : Nat) (row : List Int) (i : Nat) : Prop := Inv xs ∧ p < xs.length ∧ (lfAt xs (p : Int)).waits = row.drop i ∧ (lfAt xs (p : Int)).lost = false
theorem Turn.owner {xs : List Lf} {p : Nat} {row : List Int} {i : Nat} (h : Turn xs p row i) (hi : i < row.length) : (lfAt xs (p : Int)).owner ≠ 0 := by
  intro h0
  have := (h.1.at_ (p : Int)).fr h0 h.2.2.2
  rw [h.2.2.1] at this
  have := congrArg List.length this
  rw [List.length_drop] at this
  simp at this
  omega
theorem turn_next {xs : List Lf} {p : Nat} {row : List Int} {i : Nat} (h : Turn xs p row i) (hi : i < row.length) :
    ∃ xs' f, backL xs p (lfAt xs (p : Int)).owner = (xs', giveO p f row[i] (row.drop (i + 1)), 0) ∧ Turn xs' p row (i + 1) ∧ (lfAt xs' (p : Int)).owner = row[i] := by
  have hw := h.2.2.1
  rw [List.drop_eq_getElem_cons hi] at hw
  refine ⟨_, _, back_give h.1 h.2.1 (h.owner hi) hw, ⟨?_, by rw [List.length_set]; exact h.2.1, by rw [lfAt_set_self h.2.1], by rw [lfAt_set_self h.2.1]⟩, by rw [lfAt_set_self h.2.1]⟩
  have := (back_law h.1 (p : Int) (lfAt xs (p : Int)).owner).1
  rw [back_give h.1 h.2.1 (h.owner hi) hw] at this
  exact this
theorem turn_first {xs : List Lf} (hI : Inv xs) {p : Nat} (hp : p < xs.length) (hl : (lfAt xs (p : Int)).lost = false) : Turn xs p (lfAt xs (p : Int)).waits 0 := ⟨hI, hp, rfl, hl⟩
theorem turn_mend {xs : List Lf} (hI : Inv xs) {p : Nat} (hp : p < xs.length) (hl : (lfAt xs (p : Int)).lost = true) : (mendL xs p).2.2 = 0 ∧ Turn (mendL xs p).1 p ((lfAt xs (p : Int)).waits.drop 1) 0 ∧
    (∀ (a : Int) (r : List Int), (lfAt xs (p : Int)).waits = a :: r → ∃ f, (mendL xs p).2.1 = giveO p f a r) := by
  have hI' := (mend_law hI (p : Int)).1
  rcases mend_give hI hp hl with ⟨hw, he⟩ | ⟨a, r, hw, he⟩
  · rw [he] at hI' ⊢
    refine ⟨rfl, ⟨hI', by rw [List.length_set]; exact hp, by rw [lfAt_set_self hp, hw]; rfl, by rw [lfAt_set_self hp]⟩, fun a r h => ?_⟩
    rw [hw] at h; cases h
  · rw [he] at hI' ⊢
    refine ⟨rfl, ⟨hI', by rw [List.length_set]; exact hp, by rw [lfAt_set_self hp, hw]; rfl, by rw [lfAt_set_self hp]⟩, fun a' r' h => ?_⟩
    rw [hw] at h; cases h
    exact ⟨_, rfl⟩
end Go.Proofs.Ytilfkccahlkcaaa
