/- What bytes are as a record: the reading, in plain lists. -/
import Derived.Test.YtconmaojfkmlnaaRecH
namespace Go.Proofs.Ytconmaojfkmlnaa.Rec
open Go Go.Proofs.Ytconmaojfkmlnaa Go.Proofs.Ytconmaojfkmlnaa.Enc Xf Go.RowKit
set_option linter.unusedVariables false
set_option linter.unusedSimpArgs false
set_option maxRecDepth 100000

/-- bytes that are left, and the error -/
abbrev Rs := List UInt8 × Nat
def tk (s : Rs) (n : Nat) : Nat × Rs := (leVal (takeR s.1 s.2 n).1, (takeR s.1 s.2 n).2)
def tt (s : Rs) (m : Int) : List UInt8 × Rs := textR s.1 s.2 m
def gHead (s : Rs) : Re × Rs :=
  let a := tk s 1; let b := tk a.2 8; let c := tk b.2 4; let d := tk c.2 8
  ({ re0 with kind := a.1, lsn := b.1, txn := c.1, prev := d.1 }, d.2)
def gChg (r : Re) (s : Rs) : Re × Rs :=
  if chgP r.kind then
    let a := tk s 2; let b := tk a.2 1; let c := tt b.2 16; let d := tt c.2 32; let e := tt d.2 32
    ({ r with page := a.1, ak := b.1, key := c.1, old := d.1, new := e.1 }, e.2)
  else (r, s)
def gUndo (r : Re) (s : Rs) : Re × Rs := if r.kind = 2 then ({ r with undo := (tk s 8).1 }, (tk s 8).2) else (r, s)
def gTx (s : Rs) : Tx × Rs := let a := tk s 4; let b := tk a.2 1; let c := tk b.2 8; (⟨a.1, b.1, c.1⟩, c.2)
def gDi (s : Rs) : Di × Rs := let a := tk s 2; let b := tk a.2 8; (⟨a.1, b.1⟩, b.2)
def many {α : Type} (f : Rs → α × Rs) : Nat → Rs → List α × Rs
  | 0, s => ([], s)
  | n + 1, s => ((many f n s).1 ++ [(f (many f n s).2).1], (f (many f n s).2).2)
def gTab (r : Re) (s : Rs) : Re × Rs :=
  if r.kind = 8 then
    let a := tk s 1; let b := many gTx a.1 a.2; let c := tk b.2 1; let d := many gDi c.1 c.2
    ({ r with ts := b.1, ds := d.1 }, d.2)
  else (r, s)
def gAll (l : List UInt8) : Re × Rs :=
  let a := gHead (l, 0); let b := gChg a.1 a.2; let c := gUndo b.1 b.2; gTab c.1 c.2
/-- is it a record? -/
def isRe (l : List UInt8) : Prop := endR (gAll l).2.1 (gAll l).2.2 = 0 ∧ okP (gAll l).1
noncomputable instance (l : List UInt8) : Decidable (isRe l) := Classical.propDecidable _
noncomputable def decR (l : List UInt8) : Re × Nat := if isRe l then ((gAll l).1, 0) else (re0, 5)

theorem many_len {α : Type} (f : Rs → α × Rs) : ∀ n s, (many f n s).1.length = n
  | 0, s => rfl
  | n + 1, s => by show (_ ++ [_]).length = _; rw [List.length_append, many_len f n s]; rfl
theorem tk_lt (s : Rs) (n : Nat) : (tk s n).1 < 256 ^ n :=
  Nat.lt_of_lt_of_le (leVal_lt _) (Nat.pow_le_pow_right (by omega) (takeR_len s.1 s.2 n))
/-- an error stays -/
theorem tk_err {s : Rs} (n : Nat) (h : s.2 ≠ 0) : tk s n = (0, s) := by unfold tk takeR; rw [if_pos h]; rfl
theorem tt_err {s : Rs} (m : Int) (h : s.2 ≠ 0) : tt s m = ([], s) := by unfold tt textR; rw [if_pos h]
theorem many_err {α : Type} {f : Rs → α × Rs} (hf : ∀ s : Rs, s.2 ≠ 0 → (f s).2 = s) {s : Rs} (h : s.2 ≠ 0) : ∀ n, (many f n s).2 = s
  | 0 => rfl
  | n + 1 => by show (f (many f n s).2).2 = s; rw [many_err hf h n]; exact hf s h
theorem gTx_err (s : Rs) (h : s.2 ≠ 0) : (gTx s).2 = s := by simp [gTx, tk_err _ h]
theorem gDi_err (s : Rs) (h : s.2 ≠ 0) : (gDi s).2 = s := by simp [gDi, tk_err _ h]
theorem gChg_err (r : Re) (s : Rs) (h : s.2 ≠ 0) : (gChg r s).2 = s := by
  unfold gChg; split
  · simp [tk_err _ h, tt_err _ h]
  · rfl
theorem gUndo_err (r : Re) (s : Rs) (h : s.2 ≠ 0) : (gUndo r s).2 = s := by
  unfold gUndo; split
  · simp [tk_err _ h]
  · rfl
theorem gTab_err (r : Re) (s : Rs) (h : s.2 ≠ 0) : (gTab r s).2 = s := by
  unfold gTab; split
  · simp [tk_err _ h, many_err gTx_err h, many_err gDi_err h]
  · rfl
theorem gHead_bad {l : List UInt8} (h : (gHead (l, 0)).2.2 ≠ 0) : ¬ isRe l := by
  intro hr
  have h2 : (gAll l).2 = (gHead (l, 0)).2 := by
    unfold gAll
    simp only
    rw [gTab_err _ _ (by rw [gUndo_err _ _ (by rw [gChg_err _ _ h]; exact h), gChg_err _ _ h]; exact h), gUndo_err _ _ (by rw [gChg_err _ _ h]; exact h), gChg_err _ _ h]
  have := hr.1
  rw [h2] at this
  unfold endR at this
  rw [if_neg (by rintro ⟨h3, _⟩; exact h h3)] at this
  exact h this

/-! what was laid is taken off -/
theorem tk_leB (n k : Nat) (rest : List UInt8) (hn : n < 256 ^ k) : tk (leB n k ++ rest, 0) k = (n, (rest, 0)) := by
  unfold tk; rw [takeR_leB, leVal_leB, Nat.mod_eq_of_lt hn]
theorem tt_textB (s rest : List UInt8) (m : Int) (hm : (s.length : Int) ≤ m) (hs : s.length ≤ 65535) : tt (textB s ++ rest, 0) m = (s, (rest, 0)) := by
  obtain ⟨h1, h2⟩ := textB_parts s rest hs
  have hl : ¬ (textB s ++ rest).length < 2 := by rw [List.length_append, textB_len]; omega
  unfold tt textR
  rw [if_neg (by simp), if_neg hl, h1, h2, leVal_len hs, if_neg (by omega), if_neg (by rw [List.length_append]; omega)]
  simp
theorem gHead_back {r : Re} (h : okP r) (rest : List UInt8) : gHead (headB r ++ rest, 0) = ({ re0 with kind := r.kind, lsn := r.lsn, txn := r.txn, prev := r.prev }, (rest, 0)) := by
  have htx : 0 ≤ r.txn ∧ r.txn ≤ 1073741824 := by have := h.2.2.2.2.2.2.1; unfold txnP at this; split at this <;> omega
  obtain ⟨k1, k2, k3, k4, -⟩ := h
  unfold numP at k3
  unfold gHead headB
  simp only [List.append_assoc]
  rw [tk_leB _ _ _ (by omega)]
  simp only
  rw [tk_leB _ _ _ (by omega)]
  simp only
  rw [tk_leB _ _ _ (by omega)]
  simp only
  rw [tk_leB _ _ _ (by omega)]
  simp only [Prod.mk.injEq, Re.mk.injEq, and_true, true_and]
  omega
theorem gChg_back {r r' : Re} (h : okP r) (hk : r'.kind = r.kind) (rest : List UInt8) (h0 : r'.page = 0 ∧ r'.ak = 0 ∧ r'.key = [] ∧ r'.old = [] ∧ r'.new = []) : gChg r' (chgB r ++ rest, 0) = ({ r' with page := r.page, ak := r.ak, key := r.key, old := r.old, new := r.new }, (rest, 0)) := by
  have h6 := h.2.2.2.2.2.1
  unfold gChg chgB
  rw [hk]
  by_cases hc : chgP r.kind
  · rw [if_pos hc] at h6
    rw [if_pos hc, if_pos hc]
    obtain ⟨⟨p1, p2⟩, q1, q2, q3, q4, q5⟩ := h6
    have hak : 0 ≤ r.ak ∧ r.ak < 256 := by rcases q5 with h | h | h <;> omega
    simp only [List.append_assoc]
    rw [tk_leB _ _ _ (by omega)]
    simp only
    rw [tk_leB _ _ _ (by omega)]
    simp only
    rw [tt_textB _ _ _ (by omega) (by omega)]
    simp only
    rw [tt_textB _ _ _ (by omega) (by omega)]
    simp only
    rw [tt_textB _ _ _ (by omega) (by omega)]
    simp only [Prod.mk.injEq, Re.mk.injEq, and_true, true_and]
    omega
  · rw [if_neg hc] at h6
    rw [if_neg hc, if_neg hc, List.nil_append]
    obtain ⟨a, b, c, d, e⟩ := h6
    obtain ⟨a', b', c', d', e'⟩ := h0
    rw [a, b, c, d, e]
    simp only [Prod.mk.injEq, and_true]
    cases r'
    simp only at a' b' c' d' e'
    simp [a', b', c', d', e']
    exact hk
theorem gUndo_back {r r' : Re} (h : okP r) (hk : r'.kind = r.kind) (rest : List UInt8) (h0 : r'.undo = 0) : gUndo r' (undoB r ++ rest, 0) = ({ r' with undo := r.undo }, (rest, 0)) := by
  have h3 := h.2.2.1
  have h5 := h.2.2.2.2.1
  have h9 := h.2.2.2.2.2.2.2.2.1
  unfold numP at h3
  unfold gUndo undoB
  rw [hk]
  by_cases hc : r.kind = 2
  · rw [if_pos hc, if_pos hc, tk_leB _ _ _ (by omega)]
  · rw [if_neg hc, if_neg hc, List.nil_append, h9 hc]
    cases r'
    simp only at h0
    simp [h0]
    exact hk
theorem many_back {α : Type} {f : Rs → α × Rs} {g : α → List UInt8} {ok : α → Prop} (hfg : ∀ x rest, ok x → f (g x ++ rest, 0) = (x, (rest, 0))) (l : List α) (rest : List UInt8) (h : ∀ x ∈ l, ok x) :
    ∀ n, n ≤ l.length → many f n (l.flatMap g ++ rest, 0) = (l.take n, ((l.drop n).flatMap g ++ rest, 0))
  | 0, _ => rfl
  | n + 1, hn => by
    have ih := many_back hfg l rest h n (by omega)
    have hlt : n < l.length := by omega
    show ((many f n _).1 ++ [(f (many f n _).2).1], (f (many f n _).2).2) = _
    rw [ih]
    simp only
    have hd : (l.drop n).flatMap g = g l[n] ++ (l.drop (n + 1)).flatMap g := by rw [List.drop_eq_getElem_cons hlt, List.flatMap_cons]
    rw [hd, List.append_assoc, hfg _ _ (h _ (List.getElem_mem hlt)), List.take_succ_eq_append_getElem hlt]
theorem gTab_back {r r' : Re} (h : okP r) (hk : r'.kind = r.kind) (h0 : r'.ts = [] ∧ r'.ds = []) : gTab r' (tabB r, 0) = ({ r' with ts := r.ts, ds := r.ds }, ([], 0)) := by
  obtain ⟨t1, t2, t3, t4⟩ := h.2.2.2.2.2.2.2.2.2
  have h8 := h.2.2.2.2.2.2.2.1
  unfold gTab tabB
  rw [hk]
  by_cases hc : r.kind = 8
  · rw [if_pos hc, if_pos hc]
    simp only [List.append_assoc]
    rw [tk_leB _ _ _ (by omega)]
    simp only
    have hts : ∀ x ∈ r.ts, txP x := fun x hx => by
      obtain ⟨i, hi, rfl⟩ := List.mem_iff_getElem.1 hx
      exact (t3 i hi _ (List.getElem?_eq_getElem hi)).1
    have hds : ∀ x ∈ r.ds, diP x := fun x hx => by
      obtain ⟨i, hi, rfl⟩ := List.mem_iff_getElem.1 hx
      exact (t4 i hi _ (List.getElem?_eq_getElem hi)).1
    have f1 : ∀ (x : Tx) rest, txP x → gTx (txB x ++ rest, 0) = (x, (rest, 0)) := by
      rintro ⟨a, b, c⟩ rest ⟨⟨x1, x2⟩, x3, x4, x5, x6⟩
      simp only at x1 x2 x3 x4 x5 x6
      unfold gTx txB
      simp only [List.append_assoc]
      rw [tk_leB _ _ _ (by omega)]
      simp only
      rw [tk_leB _ _ _ (by omega)]
      simp only
      rw [tk_leB _ _ _ (by omega)]
      simp only [Prod.mk.injEq, Tx.mk.injEq, and_true]
      omega
    have f2 : ∀ (x : Di) rest, diP x → gDi (diB x ++ rest, 0) = (x, (rest, 0)) := by
      rintro ⟨a, c⟩ rest ⟨⟨x1, x2⟩, x5, x6⟩
      simp only at x1 x2 x5 x6
      unfold gDi diB
      simp only [List.append_assoc]
      rw [tk_leB _ _ _ (by omega)]
      simp only
      rw [tk_leB _ _ _ (by omega)]
      simp only [Prod.mk.injEq, Di.mk.injEq, and_true]
      omega
    rw [many_back f1 r.ts _ hts _ (Nat.le_refl _)]
    simp only [List.take_length, List.drop_length, List.flatMap_nil, List.nil_append]
    rw [tk_leB _ _ _ (by omega)]
    simp only
    have := many_back f2 r.ds [] hds _ (Nat.le_refl _)
    rw [List.append_nil] at this
    rw [this]
    simp only [List.take_length, List.drop_length, List.flatMap_nil, List.append_nil]
  · rw [if_neg hc, if_neg hc, (h8 hc).1, (h8 hc).2]
    cases r'
    obtain ⟨a, b⟩ := h0
    simp only at a b
    simp [a, b]
    exact hk
theorem gAll_back {r : Re} (h : okP r) : gAll (reB r) = (r, ([], 0)) := by
  unfold gAll reB
  simp only
  rw [List.append_assoc, List.append_assoc, gHead_back h]
  simp only
  rw [gChg_back (r' := { re0 with kind := r.kind, lsn := r.lsn, txn := r.txn, prev := r.prev }) h rfl _ ⟨rfl, rfl, rfl, rfl, rfl⟩]
  simp only
  rw [gUndo_back (r' := { re0 with kind := r.kind, lsn := r.lsn, txn := r.txn, prev := r.prev, page := r.page, ak := r.ak, key := r.key, old := r.old, new := r.new }) h rfl _ rfl]
  simp only
  rw [gTab_back (r' := { re0 with kind := r.kind, lsn := r.lsn, txn := r.txn, prev := r.prev, page := r.page, ak := r.ak, key := r.key, old := r.old, new := r.new, undo := r.undo }) h rfl ⟨rfl, rfl⟩]
theorem decR_back {r : Re} (h : okP r) : isRe (reB r) ∧ decR (reB r) = (r, 0) := by
  have hi : isRe (reB r) := by
    unfold isRe; rw [gAll_back h]; exact ⟨rfl, h⟩
  refine ⟨hi, ?_⟩
  unfold decR; rw [if_pos hi, gAll_back h]
end Go.Proofs.Ytconmaojfkmlnaa.Rec
