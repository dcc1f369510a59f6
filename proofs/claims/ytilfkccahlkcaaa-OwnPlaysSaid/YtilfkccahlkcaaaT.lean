/- The plain law of OwnOne: what the book's leaves hold, and what the orders tell. -/
import Derived.Test.YtilfkccahlkcaaaS10
namespace Go.Proofs.Ytilfkccahlkcaaa
open Go Xf Go.RowKit
set_option linter.unusedVariables false
set_option linter.unusedSimpArgs false
set_option maxRecDepth 100000

theorem nodup_len : ∀ (n : Nat) (l : List Int), l.Nodup → (∀ k ∈ l, 1 ≤ k ∧ k ≤ (n : Int)) → l.length ≤ n
  | 0, l, _, hb => by
    cases l with
    | nil => simp
    | cons a l => have := hb a (.head _); omega
  | n + 1, l, hd, hb => by
    by_cases h : ((n + 1 : Nat) : Int) ∈ l
    · have h1 := nodup_len n (l.erase ((n + 1 : Nat) : Int)) (hd.erase _) (fun k hk => by
        have := (hd.mem_erase_iff).1 hk
        have := hb k this.2
        omega)
      rw [List.length_erase_of_mem h] at h1
      omega
    · have := nodup_len n l hd (fun k hk => by
        have h2 := hb k hk
        have : k ≠ ((n + 1 : Nat) : Int) := fun he => h (he ▸ hk)
        omega)
      omega

structure PInv (x : Lf) : Prop where
  nd : x.waits.Nodup
  wb : ∀ k ∈ x.waits, 1 ≤ k ∧ k ≤ 8
  ob : x.owner = 0 ∨ (1 ≤ x.owner ∧ x.owner ≤ 8)
  ow : x.owner ∉ x.waits
  lo : x.lost = true → x.owner = 0
  ca : x.owner = 0 → x.called = false
structure LInv (x : Lf) : Prop extends PInv x where
  fr : x.owner = 0 → x.lost = false → x.waits = []
  cl : x.owner ≠ 0 → x.waits ≠ [] → x.called = true
theorem PInv.len {x : Lf} (h : PInv x) : x.waits.length ≤ 8 := nodup_len 8 x.waits h.nd h.wb
/-- what serving a leaf does, in each case -/
theorem serve_cases (p : Int) {x : Lf} (h : PInv x) :
    (∃ a, x.owner = 0 ∧ x.lost = false ∧ x.waits = [a] ∧ serveL p x = (⟨a, false, false, x.fast, []⟩, [⟨1, p, 0, a, x.fast⟩])) ∨
    (∃ a b r, x.owner = 0 ∧ x.lost = false ∧ x.waits = a :: b :: r ∧ serveL p x = (⟨a, false, true, x.fast, b :: r⟩, [⟨1, p, 0, a, x.fast⟩, ⟨2, p, a, b, x.fast⟩])) ∨
    (∃ a r, x.owner ≠ 0 ∧ x.called = false ∧ x.waits = a :: r ∧ serveL p x = (⟨x.owner, x.lost, true, x.fast, a :: r⟩, [⟨2, p, x.owner, a, x.fast⟩])) ∨
    (serveL p x = (x, []) ∧ (x.owner = 0 → x.lost = false → x.waits = []) ∧ (x.owner ≠ 0 → x.waits ≠ [] → x.called = true)) := by
  obtain ⟨o, l, c, f, ws⟩ := x
  have hca := h.ca
  have hwb := h.wb
  simp only at hca hwb ⊢
  by_cases ho : o = 0
  · subst ho
    have hc : c = false := hca rfl
    subst hc
    cases l with
    | true =>
      refine .inr (.inr (.inr ⟨?_, fun _ h => (by cases h), fun h => absurd rfl h⟩))
      simp [serveL, giveL, callL]
    | false =>
      cases ws with
      | nil =>
        refine .inr (.inr (.inr ⟨?_, fun _ _ => rfl, fun h => absurd rfl h⟩))
        simp [serveL, giveL, callL]
      | cons a r =>
        have ha := hwb a (.head _)
        have ha0 : a ≠ 0 := by omega
        cases r with
        | nil => exact .inl ⟨a, rfl, rfl, rfl, by simp [serveL, giveL, callL, ha0]⟩
        | cons b r => exact .inr (.inl ⟨a, b, r, rfl, rfl, rfl, by simp [serveL, giveL, callL, ha0]⟩)
  · cases ws with
    | nil =>
      refine .inr (.inr (.inr ⟨?_, fun h => absurd h ho, fun _ h => absurd rfl h⟩))
      simp [serveL, giveL, callL, ho]
    | cons a r =>
      cases c with
      | false => exact .inr (.inr (.inl ⟨a, r, ho, rfl, rfl, by simp [serveL, giveL, callL, ho]⟩))
      | true =>
        refine .inr (.inr (.inr ⟨?_, fun h => absurd h ho, fun _ _ => rfl⟩))
        simp [serveL, giveL, callL, ho]
theorem serve_inv (p : Int) {x : Lf} (h : PInv x) : LInv (serveL p x).1 := by
  rcases serve_cases p h with ⟨a, h1, h2, h3, h4⟩ | ⟨a, b, r, h1, h2, h3, h4⟩ | ⟨a, r, h1, h2, h3, h4⟩ | ⟨h4, h5, h6⟩
  · have := h.wb a (by rw [h3]; exact .head _)
    rw [h4]
    exact ⟨⟨List.nodup_nil, fun k hk => (by cases hk), .inr this, fun hk => (by cases hk), fun hh => (by cases hh), fun _ => rfl⟩, fun _ _ => rfl, fun _ hh => absurd rfl hh⟩
  · have ha := h.wb a (by rw [h3]; exact .head _)
    have hd := h.nd
    rw [h3] at hd
    rw [h4]
    refine ⟨⟨(List.nodup_cons.1 hd).2, fun k hk => h.wb k (by rw [h3]; exact .tail _ hk), .inr ha, (List.nodup_cons.1 hd).1, fun hh => (by cases hh), fun hh => ?_⟩, fun hh => ?_, fun _ _ => rfl⟩
    · simp only at hh; omega
    · simp only at hh; omega
  · rw [h4]
    have hd := h.nd
    have hw := h.wb
    have how := h.ow
    rw [h3] at hd hw how
    exact ⟨⟨hd, hw, h.ob, how, h.lo, fun hh => absurd hh h1⟩, fun hh => absurd hh h1, fun _ _ => rfl⟩
  · rw [h4]
    exact ⟨h, h5, h6⟩

def toldL : List Int → List Od → Option (List Int)
  | own, [] => some own
  | own, o :: os =>
    if o.page < 0 ∨ 15 < o.page then none
    else if o.kind = 1 then
      if own.getD o.page.toNat 0 ≠ 0 ∨ o.dst < 1 ∨ o.src ≠ 0 then none else toldL (own.set o.page.toNat o.dst) os
    else if o.kind ≠ 2 ∨ own.getD o.page.toNat 0 ≠ o.src ∨ o.src = 0 ∨ o.dst = o.src then none else toldL own os
theorem set_self {α : Type} {l : List α} {p : Nat} {a : α} (h : l[p]? = some a) : l.set p a = l := by
  apply List.ext_getElem?
  intro j
  rw [List.getElem?_set]
  split
  · rename_i he; subst he
    have := (List.getElem?_eq_some_iff.1 h).1
    rw [if_pos this, h]
  · rfl
theorem told_serve (p : Nat) (hp : p ≤ 15) {x : Lf} (h : PInv x) {own : List Int} (hl : own.length = 16) (ho : own[p]? = some x.owner) :
    toldL own (serveL (p : Int) x).2 = some (own.set p (serveL (p : Int) x).1.owner) := by
  have hgd : own.getD p 0 = x.owner := by rw [List.getD_eq_getElem?_getD, ho]; rfl
  have hpp : ¬ ((p : Int) < 0 ∨ 15 < (p : Int)) := by omega
  rcases serve_cases p h with ⟨a, h1, h2, h3, h4⟩ | ⟨a, b, r, h1, h2, h3, h4⟩ | ⟨a, r, h1, h2, h3, h4⟩ | ⟨h4, h5, h6⟩
  · have ha := h.wb a (by rw [h3]; exact .head _)
    rw [h4]
    simp only [toldL, if_neg hpp, Int.toNat_natCast, hgd, h1, if_true]
    rw [if_neg (by omega)]
  · have ha := h.wb a (by rw [h3]; exact .head _)
    have hd := h.nd
    rw [h3] at hd
    have hab : b ≠ a := fun he => (List.nodup_cons.1 hd).1 (by rw [he]; exact .head _)
    rw [h4]
    simp only [toldL, if_neg hpp, Int.toNat_natCast, hgd, h1, if_true]
    rw [if_neg (by omega), if_neg (by omega), if_neg]
    have : (own.set p a).getD p 0 = a := by rw [List.getD_eq_getElem?_getD, List.getElem?_set_self (by omega)]; rfl
    rw [this]
    omega
  · have how := h.ow
    rw [h3] at how
    have hab : a ≠ x.owner := fun he => how (by rw [he]; exact .head _)
    rw [h4]
    simp only [toldL, if_neg hpp, Int.toNat_natCast, hgd]
    rw [if_neg (by omega), if_neg (by omega), set_self ho]
  · rw [h4]
    simp only [toldL]
    rw [set_self ho]

def Inv (xs : List Lf) : Prop := xs.length ≤ 16 ∧ ∀ x ∈ xs, LInv x
theorem lf0_inv : LInv lf0 := ⟨⟨List.nodup_nil, fun k hk => (by cases hk), .inl rfl, fun hk => (by cases hk), fun h => (by cases h), fun _ => rfl⟩, fun _ _ => rfl, fun h => absurd rfl h⟩
theorem Inv.at_ {xs : List Lf} (h : Inv xs) (p : Int) : LInv (lfAt xs p) := by
  by_cases hp : 0 ≤ p ∧ p < xs.length
  · obtain ⟨i, rfl⟩ : ∃ i : Nat, p = i := ⟨p.toNat, by omega⟩
    rw [lfAt_nat (by omega)]
    exact h.2 _ (List.getElem_mem _)
  · rw [lfAt_out hp]; exact lf0_inv
theorem Inv.n900 {xs : List Lf} (h : Inv xs) : ∀ x ∈ xs, x.waits.length ≤ 900 := fun x hx => by have := (h.2 x hx).len; omega
theorem Inv.set {xs : List Lf} (h : Inv xs) (i : Nat) {x : Lf} (hx : LInv x) : Inv (xs.set i x) := by
  refine ⟨by rw [List.length_set]; exact h.1, fun y hy => ?_⟩
  rcases List.mem_or_eq_of_mem_set hy with hy | rfl
  · exact h.2 y hy
  · exact hx
theorem Inv.new {n : Nat} (hn : n ≤ 16) (fl : List Bool) : Inv (newL n fl) := by
  refine ⟨by rw [newL_len]; exact hn, fun x hx => ?_⟩
  obtain ⟨i, _, rfl⟩ := List.mem_map.1 hx
  exact ⟨⟨List.nodup_nil, fun k hk => (by cases hk), .inl rfl, fun hk => (by cases hk), fun h => (by cases h), fun _ => rfl⟩, fun _ _ => rfl, fun h => absurd rfl h⟩

def ownA (xs : List Lf) : List Int := (List.range 16).map fun (k : Nat) => (lfAt xs (k : Int)).owner
def lostA (xs : List Lf) : List Bool := (List.range 16).map fun (k : Nat) => (lfAt xs (k : Int)).lost
theorem ownA_len (xs : List Lf) : (ownA xs).length = 16 := by simp [ownA]
theorem lostA_len (xs : List Lf) : (lostA xs).length = 16 := by simp [lostA]
theorem ownA_at (xs : List Lf) {p : Nat} (h : p < 16) : (ownA xs)[p]? = some (lfAt xs (p : Int)).owner := by simp [ownA, h]
theorem lostA_at (xs : List Lf) {p : Nat} (h : p < 16) : (lostA xs)[p]? = some (lfAt xs (p : Int)).lost := by simp [lostA, h]
theorem lfAt_set {xs : List Lf} {i : Nat} (hi : i < xs.length) (x : Lf) (j : Nat) : lfAt (xs.set i x) (j : Int) = if i = j then x else lfAt xs (j : Int) := by
  by_cases hj : j < xs.length
  · rw [lfAt_nat (by rw [List.length_set]; exact hj), lfAt_nat hj, List.getElem_set]
  · rw [lfAt_out (by rw [List.length_set]; omega), lfAt_out (by omega), if_neg (by omega)]
theorem ownA_set {xs : List Lf} {i : Nat} (hi : i < xs.length) (h16 : xs.length ≤ 16) (x : Lf) : ownA (xs.set i x) = (ownA xs).set i x.owner := by
  apply List.ext_getElem?
  intro j
  rw [List.getElem?_set]
  by_cases hj : j < 16
  · rw [ownA_at _ hj, ownA_at _ hj, lfAt_set hi, ownA_len]
    split
    · rename_i he; subst he; rw [if_pos hj]
    · rfl
  · rw [List.getElem?_eq_none (by rw [ownA_len]; omega), List.getElem?_eq_none (l := ownA xs) (by rw [ownA_len]; omega), ownA_len]
    split
    · rw [if_neg (by omega)]
    · rfl
theorem lostA_set {xs : List Lf} {i : Nat} (hi : i < xs.length) (h16 : xs.length ≤ 16) (x : Lf) : lostA (xs.set i x) = (lostA xs).set i x.lost := by
  apply List.ext_getElem?
  intro j
  rw [List.getElem?_set]
  by_cases hj : j < 16
  · rw [lostA_at _ hj, lostA_at _ hj, lfAt_set hi, lostA_len]
    split
    · rename_i he; subst he; rw [if_pos hj]
    · rfl
  · rw [List.getElem?_eq_none (by rw [lostA_len]; omega), List.getElem?_eq_none (l := lostA xs) (by rw [lostA_len]; omega), lostA_len]
    split
    · rw [if_neg (by omega)]
    · rfl
theorem serve_lost (p : Int) {x : Lf} (h : PInv x) : (serveL p x).1.lost = x.lost := by
  rcases serve_cases p h with ⟨a, h1, h2, h3, h4⟩ | ⟨a, b, r, h1, h2, h3, h4⟩ | ⟨a, r, h1, h2, h3, h4⟩ | ⟨h4, h5, h6⟩ <;> rw [h4] <;> simp_all

/-- need: the orders tell the new owners; what is lost stays -/
theorem need_law {xs : List Lf} (h : Inv xs) (page inst : Int) :
    Inv (needL xs page inst).1 ∧ (needL xs page inst).1.length = xs.length ∧ toldL (ownA xs) (needL xs page inst).2.1 = some (ownA (needL xs page inst).1) ∧ lostA (needL xs page inst).1 = lostA xs ∧ ((needL xs page inst).2.2 ≠ 0 → (needL xs page inst).2.1 = []) := by
  unfold needL
  split
  · rename_i hc
    split
    · exact ⟨h, rfl, rfl, rfl, fun _ => rfl⟩
    · rename_i hw
      obtain ⟨i, rfl⟩ : ∃ i : Nat, page = i := ⟨page.toNat, by omega⟩
      have hi : i < xs.length := by omega
      have hx := h.at_ (i : Int)
      have h16 := h.1
      generalize hxe : lfAt xs (i : Int) = x at *
      have hP : PInv { x with waits := x.waits ++ [inst] } := by
        have h1 : x.owner ≠ inst := fun h => hw (.inl h)
        have h2 : inst ∉ x.waits := fun h => hw (.inr h)
        refine ⟨?_, ?_, hx.ob, ?_, hx.lo, hx.ca⟩
        · exact List.nodup_append.2 ⟨hx.nd, by simp, fun a ha b hb => by rw [List.mem_singleton] at hb; subst hb; intro he; subst he; exact h2 ha⟩
        · intro k hk
          rcases List.mem_append.1 hk with hk | hk
          · exact hx.wb k hk
          · rw [List.mem_singleton] at hk; omega
        · intro hk
          rcases List.mem_append.1 hk with hk | hk
          · exact hx.ow hk
          · exact h1 (List.mem_singleton.1 hk)
      rw [Int.toNat_natCast]
      refine ⟨h.set i (serve_inv _ hP), List.length_set, ?_, ?_, fun hh => absurd rfl hh⟩
      · rw [ownA_set hi h16]
        exact told_serve i (by omega) hP (ownA_len xs) (by rw [ownA_at _ (by omega), hxe])
      · rw [lostA_set hi h16, serve_lost _ hP, set_self]
        rw [lostA_at _ (by omega), hxe]
  · exact ⟨h, rfl, rfl, rfl, fun _ => rfl⟩
theorem back_law {xs : List Lf} (h : Inv xs) (page inst : Int) :
    Inv (backL xs page inst).1 ∧ (backL xs page inst).1.length = xs.length ∧ lostA (backL xs page inst).1 = lostA xs ∧
    (((backL xs page inst).2.2 ≠ 0 ∧ (backL xs page inst).2.1 = [] ∧ (backL xs page inst).1 = xs) ∨ ((backL xs page inst).2.2 = 0 ∧ ∃ i : Nat, page = i ∧ i < xs.length ∧ (lfAt xs page).owner = inst ∧ toldL ((ownA xs).set i 0) (backL xs page inst).2.1 = some (ownA (backL xs page inst).1))) := by
  unfold backL
  split
  · rename_i hc
    split
    · rename_i hw
      obtain ⟨i, rfl⟩ : ∃ i : Nat, page = i := ⟨page.toNat, by omega⟩
      have hi : i < xs.length := by omega
      have hx := h.at_ (i : Int)
      have h16 := h.1
      generalize hxe : lfAt xs (i : Int) = x at *
      have hP : PInv { x with owner := 0, called := false } := by
        refine ⟨hx.nd, hx.wb, .inl rfl, fun hk => ?_, fun _ => rfl, fun _ => rfl⟩
        have := hx.wb _ hk
        simp only at this
        omega
      rw [Int.toNat_natCast]
      refine ⟨h.set i (serve_inv _ hP), List.length_set, ?_, .inr ⟨rfl, i, rfl, hi, hw, ?_⟩⟩
      · rw [lostA_set hi h16, serve_lost _ hP, set_self]
        rw [lostA_at _ (by omega), hxe]
      · rw [ownA_set hi h16]
        have := told_serve i (by omega) hP (own := (ownA xs).set i 0) (by rw [List.length_set, ownA_len]) (by rw [List.getElem?_set_self (by rw [ownA_len]; omega)])
        rw [List.set_set] at this
        exact this
    · exact ⟨h, rfl, rfl, .inl ⟨by simp, rfl, rfl⟩⟩
  · exact ⟨h, rfl, rfl, .inl ⟨by simp, rfl, rfl⟩⟩
theorem mend_law {xs : List Lf} (h : Inv xs) (page : Int) :
    Inv (mendL xs page).1 ∧ (mendL xs page).1.length = xs.length ∧ toldL (ownA xs) (mendL xs page).2.1 = some (ownA (mendL xs page).1) ∧
    (((mendL xs page).2.2 ≠ 0 ∧ (mendL xs page).2.1 = [] ∧ (mendL xs page).1 = xs) ∨ ((mendL xs page).2.2 = 0 ∧ ∃ i : Nat, page = i ∧ i < xs.length ∧ (lfAt xs page).lost = true ∧ lostA (mendL xs page).1 = (lostA xs).set i false)) := by
  unfold mendL
  split
  · rename_i hc
    split
    · rename_i hw
      obtain ⟨i, rfl⟩ : ∃ i : Nat, page = i := ⟨page.toNat, by omega⟩
      have hi : i < xs.length := by omega
      have hx := h.at_ (i : Int)
      have h16 := h.1
      generalize hxe : lfAt xs (i : Int) = x at *
      have hP : PInv { x with lost := false } := ⟨hx.nd, hx.wb, hx.ob, hx.ow, fun hh => (by cases hh), hx.ca⟩
      rw [Int.toNat_natCast]
      refine ⟨h.set i (serve_inv _ hP), List.length_set, ?_, .inr ⟨rfl, i, rfl, hi, hw, ?_⟩⟩
      · rw [ownA_set hi h16]
        exact told_serve i (by omega) hP (ownA_len xs) (by rw [ownA_at _ (by omega), hxe])
      · rw [lostA_set hi h16, serve_lost _ hP]
    · exact ⟨h, rfl, rfl, .inl ⟨by simp, rfl, rfl⟩⟩
  · exact ⟨h, rfl, rfl, .inl ⟨by simp, rfl, rfl⟩⟩
theorem fail_inv {xs : List Lf} (h : Inv xs) (inst : Int) : Inv (failL xs inst).1 := by
  unfold failL
  split
  · rename_i hk
    refine ⟨by rw [List.length_map]; exact h.1, fun y hy => ?_⟩
    obtain ⟨x, hx, rfl⟩ := List.mem_map.1 hy
    have hL := h.2 x hx
    unfold failX
    have hsub : ∀ k ∈ without x.waits inst, k ∈ x.waits := fun k hk => (List.mem_filter.1 hk).1
    split
    · rename_i ho
      refine ⟨⟨hL.nd.filter _, fun k hk => hL.wb k (hsub k hk), .inl rfl, fun hk => ?_, fun _ => rfl, fun _ => rfl⟩, fun _ hh => (by cases hh), fun hh => absurd rfl hh⟩
      have := hL.wb _ (hsub _ hk)
      simp only at this
      omega
    · refine ⟨⟨hL.nd.filter _, fun k hk => hL.wb k (hsub k hk), hL.ob, fun hk => hL.ow (hsub _ hk), hL.lo, hL.ca⟩, fun h1 h2 => ?_, fun h1 h2 => hL.cl h1 fun hh => h2 ?_⟩
      · have := hL.fr h1 h2
        simp [without, this]
      · simp [without, hh]
  · exact h
end Go.Proofs.Ytilfkccahlkcaaa
