/- Structs that come in: slices of them, and by value. -/
import Derived.Test.YtakifgecgmdjcaaQ
import Derived.Deep.Slices
import Derived.Deep.Fields
import Derived.ChangeSame
import Derived.ChangeArms
import Derived.Lib.SmallJoins
namespace Go.Proofs.Ytakifgecgmdjcaa
open Go Xf Go.RowKit Go.ChangeShapes Go.WideShapes Go.Deep
set_option linter.unusedVariables false
set_option linter.unusedSimpArgs false

/-! rows of structs -/

theorem flat_at {α : Type} (f : α → List Value) (k : Nat) (hf : ∀ x, (f x).length = k) : ∀ (l : List α) (i : Nat) (hi : i < l.length) (j : Nat) (hj : j < k), (l.flatMap f)[i * k + j]? = (f l[i])[j]?
  | [], i, hi, j, hj => by simp at hi
  | x :: l, 0, hi, j, hj => by
    rw [List.flatMap_cons, List.getElem?_append_left (by rw [hf]; omega), Nat.zero_mul, Nat.zero_add]
    rfl
  | x :: l, i + 1, hi, j, hj => by
    rw [List.flatMap_cons, List.getElem?_append_right (by rw [hf, Nat.succ_mul]; omega), hf, show (i + 1) * k + j - k = i * k + j by rw [Nat.succ_mul]; omega, flat_at f k hf l i (by simpa using hi) j hj]
    rfl
theorem flat_len {α : Type} (f : α → List Value) (k : Nat) (hf : ∀ x, (f x).length = k) : ∀ l : List α, (l.flatMap f).length = l.length * k
  | [] => by simp
  | x :: l => by rw [List.flatMap_cons, List.length_append, hf, flat_len f k hf l, List.length_cons, Nat.succ_mul]; omega
/-- one of the structs of a slice, in a later world -/
theorem Rd.row {α : Type} {w : World} {A : Option Addr} {n c k : Nat} {f : α → List Value} (hf : ∀ x, (f x).length = k) (hk : 0 < k) {l : List α} (hr : Rd w k (.slice A n c) n (l.flatMap f)) {i : Nat} (hi : i < l.length) :
    ∃ a, A = some a ∧ ∀ w', Upd w w' [] → ∀ j u, (f l[i])[j]? = some u → w'.cell? (a.add (((i : Nat) : Int).toNat * k + j)) = some u := by
  obtain ⟨A', c', he, _, _, hc⟩ := hr
  injection he with h1 h2 h3
  subst h1
  rw [show ((i : Nat) : Int).toNat = i by omega]
  have h0 : (l.flatMap f)[i * k + 0]? = some ((f l[i])[0]'(by rw [hf]; exact hk)) := by
    rw [flat_at f k hf l i hi 0 hk]; exact List.getElem?_eq_getElem _
  obtain ⟨a, ha, _⟩ := hc _ _ h0
  refine ⟨a, ha, fun w' hU j u hu => ?_⟩
  have hj : j < k := by rw [← hf l[i]]; exact (List.getElem?_eq_some_iff.1 hu).1
  obtain ⟨a', ha', hx⟩ := hc (i * k + j) u (by rw [flat_at f k hf l i hi j hj]; exact hu)
  rw [ha] at ha'
  injection ha' with ha'
  subst ha'
  rw [hU.cell (World.block_lt_of_cell? w _ hx) (by simp)]; exact hx

/-- worlds in which the old blocks stand as in W, and these -/
def SU (W : World) (h : List (Nat × Obj)) (w' : World) : Prop := Upd W w' [] ∧ Owns w' h
theorem SU.drew {W w : World} {h : List (Nat × Obj)} (hU : Upd W w []) (hO : Owns w h) : SU W h w.drew := ⟨hU.trans (Upd.drew w []), hO.ext (Upd.drew w [])⟩

def in64 (n : Int) : Prop := -9223372036854775808 ≤ n ∧ n < 9223372036854775808
theorem in64_wf {n : Int} (h : (Lit.int .i64 n).wf = true) : in64 n := by
  simp only [Lit.wf, Bool.and_eq_true, decide_eq_true_eq] at h
  have e1 : IntKind.min .i64 = -9223372036854775808 := by decide
  have e2 : IntKind.max .i64 = 9223372036854775807 := by decide
  rw [e1, e2] at h
  unfold in64; omega

/-- the kinds of fields that are one cell -/
inductive Kd where
  | int (k : IntKind)
  | bool
  | str
def KdOk : Kd → Value → Prop
  | .int k, v => ∃ n, v = .int k n ∧ (Lit.int k n).wf = true
  | .bool, v => ∃ b, v = .bool b
  | .str, v => ∃ l : List UInt8, v = .string ⟨l.toArray⟩
def Kd.desc : Kd → TypeDesc → Bool
  | .int k, .int k' => k == k'
  | .bool, .bool => true
  | .str, .string => true
  | _, _ => false
def RowOk (ks : List Kd) (row : List Value) : Prop := row.length = ks.length ∧ ∀ (j : Nat) (k : Kd), ks[j]? = some k → ∃ v, row[j]? = some v ∧ KdOk k v

section
variable {H : Type} {enc : TypeId × Value → H} {P : Program} {w : World} {held : Bool}
theorem kd_of_trod {base : Nat} {spare : Nat → Bool} {t : TypeId} {k : Kd} {fuel : Nat} {v : Value} {x : DataW H × List MemPlace} (ht : (P.underlying t).map k.desc = some true) (h : DataW.trod enc P w base spare held fuel t [v] = some x) : KdOk k v := by
  cases hu : P.underlying t with
  | none => rw [hu] at ht; cases ht
  | some d =>
    rw [hu] at ht
    simp only [Option.map_some, Option.some.injEq] at ht
    cases k with
    | int k =>
      cases d <;> first | cases ht | skip
      rename_i k'
      have : k = k' := by cases k <;> cases k' <;> first | rfl | cases ht
      subst this
      obtain ⟨n, h1, _, h3⟩ := Go.DataW.trod_int hu h
      exact ⟨n, by simpa using h1, h3⟩
    | bool =>
      cases d <;> first | cases ht | skip
      obtain ⟨b, h1, _⟩ := Go.DataW.trod_bool hu h
      exact ⟨b, by simpa using h1⟩
    | str =>
      cases d <;> first | cases ht | skip
      obtain ⟨s, h1, _⟩ := Go.DataW.trod_string hu h
      obtain ⟨l, rfl⟩ := mk_surj s
      exact ⟨l, by simpa using h1⟩

def kdB (P : Program) : List Field → List Kd → Bool
  | [], [] => true
  | f :: fs, k :: ks => (P.underlying f.type).map k.desc == some true && kdB P fs ks
  | _, _ => false
theorem kdB_at : ∀ {fs : List Field} {ks : List Kd}, kdB P fs ks = true → ks.length = fs.length ∧ ∀ (j : Nat) (k : Kd), ks[j]? = some k → ∃ f, fs[j]? = some f ∧ (P.underlying f.type).map k.desc = some true
  | [], [], _ => ⟨rfl, fun j k h => by simp at h⟩
  | f :: fs, k :: ks, h => by
    simp only [kdB, Bool.and_eq_true, beq_iff_eq] at h
    obtain ⟨h1, h2⟩ := kdB_at h.2
    refine ⟨by simp [h1], fun j k' hj => ?_⟩
    cases j with
    | zero => simp at hj; subst hj; exact ⟨f, rfl, h.1⟩
    | succ j => exact h2 j k' hj
  | [], _ :: _, h => by simp [kdB] at h
  | _ :: _, [], h => by simp [kdB] at h

/-- a slice that reads the structs l -/
def RdS {α : Type} (w : World) (f : α → List Value) (k : Nat) (v : Value) (l : List α) : Prop :=
  ∃ (A : Option Addr) (c : Nat), v = .slice A l.length c ∧ l.length ≤ maxLen ∧ Rd w k (.slice A l.length c) l.length (l.flatMap f)
theorem RdS.mono {α : Type} {w w' : World} {f : α → List Value} {k : Nat} {v : Value} {l : List α} (h : RdS w f k v l) (hU : Upd w w' []) : RdS w' f k v l := by
  obtain ⟨A, c, h1, h2, h3⟩ := h
  exact ⟨A, c, h1, h2, h3.mono hU⟩

theorem open_slice_fields {base : Nat} {spare : Nat → Bool} {t e : TypeId} {fs : Array Field} {fuel : Nat} {cs : List Value} {x : DataW H × List MemPlace} (ht : P.underlying t = some (.slice e)) (he : P.underlying e = some (.struct fs))
    (hone : oneCellFields P fs = true) (hC : P.cellsOf e = fs.size) (h : DataW.trod enc P w base spare held fuel t cs = some x) :
    (cs = [.slice none 0 0] ∧ x = (.nil, [])) ∨
    ∃ (a : Addr) (len cap m : Nat), cs = [.slice (some a) len cap] ∧ len ≤ cap ∧ cap ≤ maxLen ∧ m = (if spare a.block then cap else len) ∧
      ∀ i, i < m → ∀ (j : Nat) (f : Field), fs[j]? = some f → ∃ (v : Value) (y : DataW H × List MemPlace) (n : Nat), w.cell? (a.add (i * fs.size + j)) = some v ∧ DataW.trod enc P w base spare held n f.type [v] = some y := by
  rcases open_slice ht h with h0 | ⟨a, len, cap, m, n, D, Pl, hcs, hb, hl, hm, hmm, hx, hi⟩
  · exact .inl h0
  · refine .inr ⟨a, len, cap, m, hcs, hl, hm, hmm, fun i him => ?_⟩
    obtain ⟨cs', hc, ht'⟩ := hi i him
    rw [hC] at hc
    obtain ⟨ys, n', hn', hy, hlen, hyl, hf⟩ := DataW.trod_struct he ht'
    obtain ⟨_, hcl, hat⟩ := World.cells?_some hc
    intro j f hj
    obtain ⟨ho, hk⟩ := hone_of hone j f hj
    have hjl : j < fs.size := (Array.getElem?_eq_some_iff.1 hj).1
    have hcell := hat j hjl
    have hv : cs'[j]? = some (cs'[j]'(by omega)) := List.getElem?_eq_getElem (by omega)
    have h1 := hf j f hj
    rw [ho, hk] at h1
    have hone' : (cs'.drop j).take 1 = [cs'[j]'(by omega)] := by
      rw [List.drop_eq_getElem_cons (by omega)]
      rfl
    rw [hone'] at h1
    have hys : ys[j]? = some (ys[j]'(by omega)) := List.getElem?_eq_getElem (by omega)
    refine ⟨_, _, n', ?_, h1.trans hys⟩
    rw [← add_add', hcell, hv]

theorem as_list {α : Type} {f : α → List Value} {R : α → Prop} {ok : List Value → Prop} (hα : ∀ row, ok row → ∃ o, row = f o ∧ R o) : ∀ {rows : List (List Value)}, (∀ row ∈ rows, ok row) → ∃ l : List α, rows = l.map f ∧ ∀ o ∈ l, R o
  | [], _ => ⟨[], rfl, fun o h => by cases h⟩
  | r :: rows, h => by
    obtain ⟨o, h1, h2⟩ := hα r (h r (List.mem_cons_self ..))
    obtain ⟨l, h3, h4⟩ := as_list hα (rows := rows) fun row hr => h row (List.mem_cons_of_mem _ hr)
    refine ⟨o :: l, by rw [h1, h3]; rfl, fun x hx => ?_⟩
    rcases List.mem_cons.1 hx with rfl | hx
    · exact h2
    · exact h4 x hx

theorem structs_of_trod {α : Type} {f : α → List Value} {R : α → Prop} {ks : List Kd} (hf : ∀ x, (f x).length = ks.length) (hα : ∀ row, RowOk ks row → ∃ o, row = f o ∧ R o) {t e : TypeId} {fs : Array Field} {fuel : Nat} {v : Value} {x : DataW H × List MemPlace} (ht : P.underlying t = some (.slice e)) (he : P.underlying e = some (.struct fs))
    (hone : oneCellFields P fs = true) (hC : P.cellsOf e = fs.size) (hks : kdB P fs.toList ks = true) (h : DataW.trod enc P w 0 (fun _ => true) held fuel t [v] = some x) :
    ∃ l : List α, RdS w f ks.length v l ∧ ∀ o ∈ l, R o := by
  obtain ⟨hkl, hka⟩ := kdB_at hks
  have hkl : ks.length = fs.size := by simpa using hkl
  rcases open_slice_fields ht he hone hC h with ⟨hcs, _⟩ | ⟨a, len, cap, m, hcs, hl, hm, hmm, hi⟩
  · simp at hcs
    subst hcs
    exact ⟨[], ⟨none, 0, rfl, Nat.zero_le _, Rd.nil_ _ _⟩, fun o h => by cases h⟩
  · simp at hcs
    subst hcs
    simp at hmm
    obtain rfl := hmm
    have key : ∀ i, i < len → ∃ row : List Value, RowOk ks row ∧ ∀ j u, row[j]? = some u → w.cell? (a.add (i * ks.length + j)) = some u := by
      intro i him
      have h1 : ∀ j, j < ks.length → ∃ v : Value, w.cell? (a.add (i * ks.length + j)) = some v ∧ ∀ k, ks[j]? = some k → KdOk k v := by
        intro j hj
        obtain ⟨k, hk⟩ : ∃ k, ks[j]? = some k := ⟨_, List.getElem?_eq_getElem hj⟩
        obtain ⟨f', hf', hd⟩ := hka j k hk
        obtain ⟨v, y, n, hc, ht'⟩ := hi i (by omega) j f' (by rw [← Array.getElem?_toList]; exact hf')
        rw [← hkl] at hc
        refine ⟨v, hc, fun k' hk' => ?_⟩
        rw [hk] at hk'; injection hk' with hk'; subst hk'
        exact kd_of_trod hd ht'
      obtain ⟨V, hV⟩ := Deep.choose_lt h1
      refine ⟨(List.range ks.length).map V, ⟨by simp, fun j k hk => ?_⟩, fun j u hu => ?_⟩
      · have hj : j < ks.length := (List.getElem?_eq_some_iff.1 hk).1
        exact ⟨V j, by simp [hj], (hV j hj).2 k hk⟩
      · obtain ⟨hj, he⟩ := List.getElem?_eq_some_iff.1 hu
        simp at hj he
        subst he
        exact (hV j hj).1
    obtain ⟨F, hF⟩ := Deep.choose_lt key
    obtain ⟨l, hl1, hl2⟩ := as_list hα (rows := (List.range len).map F) (fun row hr => by
      obtain ⟨i, hi, rfl⟩ := List.mem_map.1 hr
      exact (hF i (by simpa using hi)).1)
    have hlen : l.length = len := by
      have := congrArg List.length hl1
      simpa using this.symm
    refine ⟨l, ⟨some a, m, by rw [hlen], by omega, ?_⟩, hl2⟩
    rw [hlen]
    refine ⟨some a, m, rfl, hl, by rw [flat_len f _ hf, hlen], fun j u hu => ⟨a, rfl, ?_⟩⟩
    have hj : j < len * ks.length := by
      have := (List.getElem?_eq_some_iff.1 hu).1
      rw [flat_len f _ hf, hlen] at this; exact this
    have hk0 : 0 < ks.length := by
      rcases Nat.eq_zero_or_pos ks.length with h0 | h0
      · rw [h0] at hj; omega
      · exact h0
    have hq : j / ks.length < len := Nat.div_lt_of_lt_mul (by rw [Nat.mul_comm]; exact hj)
    have hdm : j / ks.length * ks.length + j % ks.length = j := by rw [Nat.mul_comm]; exact Nat.div_add_mod j ks.length
    rw [← hdm]
    refine (hF _ hq).2 _ u ?_
    rw [← hdm, flat_at f _ hf l _ (by omega) _ (Nat.mod_lt _ hk0)] at hu
    have : (l.map f)[j / ks.length]? = some (F (j / ks.length)) := by rw [← hl1]; simp [hq]
    rw [List.getElem?_map, List.getElem?_eq_getElem (by omega)] at this
    simp at this
    rw [← this]; exact hu

/-- the fields of a struct that is handed in by value -/
theorem open_fields {base : Nat} {spare : Nat → Bool} {r : Reach} {b0 : Nat} {t : TypeId} {fs : Array Field} {v : Value} {d : DataW H} {p : List MemPlace} (hs : P.underlying t = some (.struct fs)) (hone : oneCellFields P fs = true) (hC : P.cellsOf t = fs.size)
    (hv : Value.okWide P w r b0 t v) (h : DataW.Trod enc P w base spare held t v d p) : ∃ row : List Value, v = .agg row.toArray ∧ row.length = fs.size ∧ ∀ (j : Nat) (f : Field), fs[j]? = some f → ∃ (u : Value) (y : DataW H × List MemPlace) (n : Nat), row[j]? = some u ∧ DataW.trod enc P w base spare held n f.type [u] = some y := by
  obtain ⟨cs, rfl, hsz⟩ := okWide_struct hs hv
  obtain ⟨l⟩ := cs
  obtain ⟨fuel, hf⟩ := h
  obtain ⟨xs, n, _, hx, _, hlen, hg⟩ := DataW.trod_struct hs hf
  have hl : l.length = fs.size := by rw [← hC]; simpa using hsz
  refine ⟨l, rfl, hl, fun j f hj => ?_⟩
  obtain ⟨ho, hk⟩ := hone_of hone j f hj
  have hjl : j < fs.size := (Array.getElem?_eq_some_iff.1 hj).1
  have h1 := hg j f hj
  have hcl : (Value.agg l.toArray).cells.toList = l := rfl
  rw [ho, hk, hcl] at h1
  have hone' : (l.drop j).take 1 = [l[j]'(by omega)] := by
    rw [List.drop_eq_getElem_cons (by omega)]
    rfl
  rw [hone'] at h1
  have hxs : xs[j]? = some (xs[j]'(by omega)) := List.getElem?_eq_getElem (by omega)
  exact ⟨_, _, n, List.getElem?_eq_getElem (by omega), h1.trans hxs⟩

theorem struct_of_trod {base : Nat} {spare : Nat → Bool} {α : Type} {f : α → List Value} {R : α → Prop} {ks : List Kd} (hα : ∀ row, RowOk ks row → ∃ o, row = f o ∧ R o) {r : Reach} {b0 : Nat} {t : TypeId} {fs : Array Field} {v : Value} {d : DataW H} {p : List MemPlace} (hs : P.underlying t = some (.struct fs)) (hone : oneCellFields P fs = true) (hC : P.cellsOf t = fs.size) (hks : kdB P fs.toList ks = true)
    (hv : Value.okWide P w r b0 t v) (h : DataW.Trod enc P w base spare held t v d p) : ∃ o, v = .agg (f o).toArray ∧ R o := by
  obtain ⟨row, rfl, hl, hi⟩ := open_fields hs hone hC hv h
  obtain ⟨hkl, hka⟩ := kdB_at hks
  have hkl : ks.length = fs.size := by simpa using hkl
  obtain ⟨o, rfl, ho⟩ := hα row ⟨by omega, fun j k hk => by
    obtain ⟨f', hf', hd⟩ := hka j k hk
    obtain ⟨v, y, n, hc, ht'⟩ := hi j f' (by rw [← Array.getElem?_toList]; exact hf')
    exact ⟨v, hc, kd_of_trod hd ht'⟩⟩
  exact ⟨o, rfl, ho⟩
end
end Go.Proofs.Ytakifgecgmdjcaa
