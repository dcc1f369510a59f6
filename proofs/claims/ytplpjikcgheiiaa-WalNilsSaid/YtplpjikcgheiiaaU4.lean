/- Texts of this work, put together: Q, Eq, V, A, EncM, EncS, EncR, EncN, EncQ, CrcM, CrcS, CrcQ, RecM, RecA, RecB, RecC, RecD, RecE, RecF, RecG, RecH, RecI, RecJ, RecK. -/
import Derived.Test.YtplpjikcgheiiaaU3
import Derived.Laws.StructEq
import Derived.Deep.Slices
import Derived.Deep.Fields
import Derived.ChangeSame
import Derived.ChangeArms
import Derived.Lib.SmallJoins
import Derived.Laws.Append
import Derived.Laws.AppendOwn
import Derived.WalkKit
/- Slices of whole numbers, and rows. -/
namespace Go.Proofs.Ytplpjikcgheiiaa
open Go Xf Go.RowKit Go.ChangeShapes Go.WideShapes
set_option linter.unusedVariables false
set_option linter.unusedSimpArgs false

def intsV (k : IntKind) (l : List Int) : List Value := l.map fun n => .int k n
theorem intsV_len (k : IntKind) (l : List Int) : (intsV k l).length = l.length := by simp [intsV]
theorem intsV_one (k : IntKind) (l : List Int) : ∀ y ∈ intsV k l, y.oneCell' = true := by
  intro y hy; obtain ⟨n, _, rfl⟩ := List.mem_map.1 hy; rfl
theorem intsV_append (k : IntKind) (a b : List Int) : intsV k a ++ intsV k b = intsV k (a ++ b) := by simp [intsV]

theorem rd_row {w : World} {g n c : Nat} {cs : Array Value} {e : TypeId} {fr : Nat × Nat} {xs : List Value} (h : w.heap[g]? = some (.cells cs e fr)) (hn : xs.length = n) (hc : n ≤ c) (hx : cs.toList.take n = xs) : Rd w 1 (.slice (some ⟨g, 0, none⟩) n c) n xs := by
  refine ⟨_, _, rfl, hc, by omega, fun j u hu => ⟨_, rfl, ?_⟩⟩
  rw [add_mk, Nat.zero_add, cell_at h]
  rw [← hx, List.getElem?_take] at hu
  split at hu
  · simpa using hu
  · cases hu
/-- a slice that reads, opened at a place, in a later world -/
theorem Rd.cell {w w' : World} {v : Value} {n : Nat} {xs : List Value} (hr : Rd w 1 v n xs) (hU : Upd w w' []) {i : Nat} {u : Value} (hi : xs[i]? = some u) :
    ∃ A c a, v = .slice A n c ∧ A = some a ∧ w'.cell? (a.add ((i : Int).toNat * 1)) = some u := by
  obtain ⟨A, c, he, _, _, hc⟩ := hr
  obtain ⟨a, ha, hx⟩ := hc i u hi
  refine ⟨A, c, a, he, ha, ?_⟩
  rw [show (i : Int).toNat * 1 = i by omega, hU.cell (World.block_lt_of_cell? w _ hx) (by simp)]; exact hx
theorem row_nil (e : TypeId) (g : Nat) : RowH e 1 (.slice (some ⟨g, 0, none⟩) 0 0) 0 [] [(g, .cells #[] e)] := ⟨rfl, .inr ⟨g, 0, #[], rfl, rfl, Nat.le_refl _, Nat.zero_le _, rfl, rfl⟩⟩

section
variable {H : Type} {enc : TypeId × Value → H} {P : Program} {w : World} {held : Bool}
theorem ints_of_trod {t e : TypeId} {k : IntKind} {fuel : Nat} {v : Value} {x : DataW H × List MemPlace} (ht : P.underlying t = some (.slice e)) (he : P.underlying e = some (.int k)) (hc : P.cellsOf e = 1)
    (h : DataW.trod enc P w 0 (fun _ => true) held fuel t [v] = some x) : ∃ (l : List Int) (a : Option Addr) (c : Nat), v = .slice a l.length c ∧ l.length ≤ maxLen ∧ Rd w 1 v l.length (intsV k l) ∧ ∀ n ∈ l, (Lit.int k n).wf = true := by
  rcases open_ints ht he hc h with ⟨hcs, _⟩ | ⟨y, len, c, zs, hcs, _, hl, hm, hz, hx, hcell, hwz⟩
  · simp at hcs
    subst hcs
    exact ⟨[], none, 0, rfl, Nat.zero_le _, Rd.nil_ _ _, fun n hn => by cases hn⟩
  · simp at hcs
    subst hcs
    simp at hz
    have hlen : (zs.take len).length = len := by simp; omega
    refine ⟨zs.take len, some y, c, by rw [hlen], by omega, ?_, fun n hn => hwz n (List.mem_of_mem_take hn)⟩
    rw [hlen]
    refine ⟨some y, c, rfl, hl, by simp [intsV]; omega, fun j u hu => ⟨y, rfl, ?_⟩⟩
    have hj : j < len := by
      have := (List.getElem?_eq_some_iff.1 hu).1
      simp [intsV] at this
      omega
    have hj2 : j < zs.length := by omega
    rw [hcell j hj2]
    simp [intsV, hj, hj2, List.getElem?_take] at hu
    simp [List.getD, hj2, hu]
end

section
variable {P : Program} {w W : World} {K : Value → World → Prop}

theorem run_copyN (w : World) (dT sT ty elem : TypeId) (sz g o dLen dCap : Nat) (a : Addr) (sLen sCap : Nat) (cur : Array Value) (t : TypeId) (cs : List Value)
    (hu : P.underlying dT = some (.slice elem)) (hs : (P.info? elem).map (·.size) = some sz)
    (hg : w.heap[g]? = some (.cells cur t (0, 0))) (hn : cs.length = Nat.min sLen dLen * sz)
    (hsrc : ∀ j v, cs[j]? = some v → w.cell? (a.add j) = some v) (hfit : o + cs.length ≤ cur.size) (h1 : ∀ v ∈ cs, v.oneCell' = true) :
    (Builtin.copy_ #[dT, sT] ty #[.slice (some ⟨g, o, none⟩) dLen dCap, .slice (some a) sLen sCap]).run P w =
      .ok (goInt (Nat.min sLen dLen)) (w.setRow g (cur.toList.take o ++ cs ++ cur.toList.drop (o + cs.length)).toArray) := by
  have hl := run_loadCells_list (P := P) w a cs hsrc
  have hst := run_storeCells_at P g o t cs 0 cur w hg (by simpa using hfit) h1
  cases hq : P.info? elem with
  | none => simp [hq] at hs
  | some i =>
    have hi : i.size = sz := by simpa [hq] using hs
    simp [Builtin.copy_, run_underlying hu, Builtin.lenOf, Builtin.firstCells, sizeOf, typeInfo, hq, hi, ← hn, hl, hst]

/-- all of a slice is copied into a row that is as long -/
theorem st_copy {t t' e te ty : TypeId} {c : List Bool} {sz n cap g : Nat} {v : Value} {xs : List Value} {cur : Array Value} {h : List (Nat × Obj)} {ks : List Nat} (ht : P.underlying t = some (.slice e)) (hsz : (P.info? e).map (·.size) = some sz)
    (hU : Upd W w ks) (hO : Owns w h) (i : Nat) (hi : h[i]? = some (g, .cells cur te (0, 0))) (hr : Rd w sz v n xs) (hfit : xs.length ≤ cur.size) (h1 : ∀ u ∈ xs, u.oneCell' = true) (hg : g ∈ ks ∨ W.heap.size ≤ g)
    (hk : ∀ w', Upd W w' ks → Owns w' (h.set i (g, .cells (xs ++ cur.toList.drop xs.length).toArray te (0, 0))) → K (.int .i64 n) w') :
    (std P).step (sBuiltin .copy #[t, t'] ty c [.slice (some ⟨g, 0, none⟩) n cap, v]) w K := by
  obtain ⟨A, cc, rfl, hcc, hl, hrd⟩ := hr
  have hb := hO.at_ i hi
  have hrun : ∀ {u : Value} {w' : World}, (Builtin.copy_ #[t, t'] ty #[.slice (some ⟨g, 0, none⟩) n cap, .slice A n cc]).run P w = .ok u w' → (sBuiltin .copy #[t, t'] ty c [.slice (some ⟨g, 0, none⟩) n cap, .slice A n cc]).run P w = .ok (.value u) w' := by
    intro u w' h
    show (do pure (.value (← Builtin.copy_ #[t, t'] ty #[.slice (some ⟨g, 0, none⟩) n cap, .slice A n cc])) : Sem Next).run P w = _
    rw [Sem.run_bind, h]; rfl
  by_cases hx : xs = []
  · subst hx
    have hz : (Builtin.copy_ #[t, t'] ty #[.slice (some ⟨g, 0, none⟩) n cap, .slice A n cc]).run P w = .ok (goInt n) w := by
      cases hq : P.info? e with
      | none => simp [hq] at hsz
      | some i =>
        have hi : i.size = sz := by simpa [hq] using hsz
        have h0 : n * sz = 0 := by simpa using hl.symm
        cases A with
        | none => simp [Builtin.copy_, run_underlying ht, Builtin.lenOf, Builtin.firstCells, sizeOf, typeInfo, hq, hi, h0, storeCells]
        | some a => simp [Builtin.copy_, run_underlying ht, Builtin.lenOf, Builtin.firstCells, sizeOf, typeInfo, hq, hi, h0, storeCells, loadCells, loadCellsFrom]
    rw [step_run (hrun hz)]
    refine hk w hU ?_
    have : (g, Obj.cells ([] ++ cur.toList.drop ([] : List Value).length).toArray te (0, 0)) = (g, Obj.cells cur te (0, 0)) := by simp
    rw [this]
    have : h.set i (g, Obj.cells cur te (0, 0)) = h := by
      apply List.ext_getElem?
      intro j
      by_cases hij : i = j
      · subst hij; rw [List.getElem?_set_self (List.getElem?_eq_some_iff.1 hi).1, hi]
      · rw [List.getElem?_set_ne hij]
    rw [this]; exact hO
  · obtain ⟨x, xs', rfl⟩ := List.exists_cons_of_ne_nil hx
    obtain ⟨a, rfl, _⟩ := hrd 0 x rfl
    have hsrc : ∀ j u, (x :: xs')[j]? = some u → w.cell? (a.add j) = some u := fun j u hj => by
      obtain ⟨a', ha, hc⟩ := hrd j u hj
      injection ha with ha; subst ha; exact hc
    have := run_copyN (P := P) w t t' ty e sz g 0 n cap a n cc cur te (x :: xs') ht hsz hb (by simpa using hl) hsrc (by simpa using hfit) h1
    rw [show Nat.min n n = n from Nat.min_self n] at this
    rw [step_run (hrun this)]
    have e : (cur.toList.take 0 ++ (x :: xs') ++ cur.toList.drop (0 + (x :: xs').length)).toArray = ((x :: xs') ++ cur.toList.drop (x :: xs').length).toArray := by simp
    rw [e]
    exact hk _ (hU.then_ (Upd.setRow _ _ _) fun y hy => by simp at hy; subst hy; exact hg) (hO.setRow i hi _)

theorem st_make {t e : TypeId} {i : TypeInfo} {z : Value} {sz bytes : Nat} {q : IntKind} {n : Nat} {h : List (Nat × Obj)} {ks : List Nat} (ht : P.underlying t = some (.slice e)) (hi : P.info? e = some i) (hz : i.zero = some z) (hs : i.size = sz) (hb : i.bytes = bytes)
    (hby : bytes * n ≤ 281474976710656) (h63 : n ≤ 9223372036854775807) (hU : Upd W w ks) (hO : Owns w h)
    (hk : ∀ g w', Upd W w' ks → Owns w' ((g, .cells (madeCells z.cells (n * sz)) e) :: h) → W.heap.size ≤ g → K (.slice (some ⟨g, 0, none⟩) n n) w') : (std P).step (sMakeSlice t (.int q n) (.int q n)) w K := by
  subst hs hb
  refine st_newRow (fun w => ?_) hU hO hk
  have h2 : ((i.bytes * n : Nat) : Int) ≤ 281474976710656 := by omega
  rw [Int.natCast_mul] at h2
  have := run_make (P := P) w t e i z ht hi hz q q n n (by omega) (by omega) h2 (by omega)
  unfold sMakeSlice
  rw [run_sV, this, Int.toNat_natCast]
  rfl
end
end Go.Proofs.Ytplpjikcgheiiaa

/- Equality of structs, field by field. -/
namespace Go.Proofs.Ytplpjikcgheiiaa
open Go Xf Go.RowKit
set_option linter.unusedVariables false
set_option linter.unusedSimpArgs false

def eqF3 (d : Nat) (xs ys : Array Value) : List (Bool × TypeId × Nat) → Sem Bool
  | [] => pure true
  | f :: fs => match f.1 with
    | true => do
      let a ← part f.2.1 xs f.2.2
      let b ← part f.2.1 ys f.2.2
      let r ← Op.equalIn d f.2.1 a b
      if (!r) = true then pure false else eqF3 d xs ys fs
    | false => eqF3 d xs ys fs
theorem eqFields3 (d : Nat) (xs ys : Array Value) : ∀ l : List Field, Op.eqFields d xs ys l = eqF3 d xs ys (l.map fun f => (f.name != "_", f.type, f.offset))
  | [] => rfl
  | f :: fs => by
    have ih := eqFields3 d xs ys fs
    unfold Op.eqFields
    simp only [List.map_cons]
    unfold eqF3
    by_cases h : f.name = "_"
    · simp [h, ih]
    · have hb : (f.name != "_") = true := by simpa using h
      simp only [hb, ne_eq, h, not_false_eq_true, if_true, ih]
theorem run_eqS {P : Program} {w : World} {t : TypeId} {xs ys : Array Value} {l : List (Bool × TypeId × Nat)} {b : Bool} (ht : P.underlying t = some (.struct (P.fieldsOf t))) (hp : P.stoodInHeld t = false) (hg : P.eqGuardType P.depth t = false)
    (hl : ((P.fieldsOf t).toList.map fun f => (f.name != "_", f.type, f.offset)) = l) (h : (eqF3 9999 xs ys l).run P w = .ok b w) :
    (∀ x y : Operand, (sBin .eql t x y (.agg xs) (.agg ys)).run P w = .ok (.value (.bool b)) w) ∧ (∀ x y : Operand, (sBin .neq t x y (.agg xs) (.agg ys)).run P w = .ok (.value (.bool (!b))) w) := by
  have e : (Op.equalIn 10000 t (.agg xs) (.agg ys)).run P w = .ok b w := by
    rw [show 10000 = 9999 + 1 from rfl, run_equalIn_agg w 9999 t xs ys ht hp, eqFields3, hl, h]
  refine ⟨fun x y => ?_, fun x y => ?_⟩
  · unfold sBin
    rw [run_sV, Sem.run_bind, run_eqGuard_agg w .eql t x y xs ys hg]
    simp only [Result.andThen_ok, run_eql_struct, e]
  · unfold sBin
    rw [run_sV, Sem.run_bind, run_eqGuard_agg w .neq t x y xs ys hg]
    simp only [Result.andThen_ok, run_neq_struct, e]
end Go.Proofs.Ytplpjikcgheiiaa

/- Structs that come in: slices of them, and by value. -/
namespace Go.Proofs.Ytplpjikcgheiiaa
open Go Xf Go.RowKit Go.ChangeShapes Go.WideShapes Go.Deep
set_option linter.unusedVariables false
set_option linter.unusedSimpArgs false

/-! rows of structs -/

theorem flat_at {α : Type} (f : α → List Value) (k : Nat) (hf : ∀ x, (f x).length = k) : ∀ (l : List α) (i : Nat) (hi : i < l.length) (j : Nat) (hj : j < k), (l.flatMap f)[i * k + j]? = (f l[i])[j]?
  | [], i, hi, j, hj => by simp at hi
  | x :: l, 0, hi, j, hj => by
    rw [List.flatMap_cons, List.getElem?_append_left (by rw [hf]; omega), Nat.zero_mul, Nat.zero_add]
    rfl
  | x :: l, i + 1, hi, j, hj => by
    rw [List.flatMap_cons, List.getElem?_append_right (by rw [hf, Nat.succ_mul]; omega), hf, show (i + 1) * k + j - k = i * k + j by rw [Nat.succ_mul]; omega, flat_at f k hf l i (by simpa using hi) j hj]
    rfl
theorem flat_len {α : Type} (f : α → List Value) (k : Nat) (hf : ∀ x, (f x).length = k) : ∀ l : List α, (l.flatMap f).length = l.length * k
  | [] => by simp
  | x :: l => by rw [List.flatMap_cons, List.length_append, hf, flat_len f k hf l, List.length_cons, Nat.succ_mul]; omega
/-- one of the structs of a slice, in a later world -/
theorem Rd.row {α : Type} {w : World} {A : Option Addr} {n c k : Nat} {f : α → List Value} (hf : ∀ x, (f x).length = k) (hk : 0 < k) {l : List α} (hr : Rd w k (.slice A n c) n (l.flatMap f)) {i : Nat} (hi : i < l.length) :
    ∃ a, A = some a ∧ ∀ w', Upd w w' [] → ∀ j u, (f l[i])[j]? = some u → w'.cell? (a.add (((i : Nat) : Int).toNat * k + j)) = some u := by
  obtain ⟨A', c', he, _, _, hc⟩ := hr
  injection he with h1 h2 h3
  subst h1
  rw [show ((i : Nat) : Int).toNat = i by omega]
  have h0 : (l.flatMap f)[i * k + 0]? = some ((f l[i])[0]'(by rw [hf]; exact hk)) := by
    rw [flat_at f k hf l i hi 0 hk]; exact List.getElem?_eq_getElem _
  obtain ⟨a, ha, _⟩ := hc _ _ h0
  refine ⟨a, ha, fun w' hU j u hu => ?_⟩
  have hj : j < k := by rw [← hf l[i]]; exact (List.getElem?_eq_some_iff.1 hu).1
  obtain ⟨a', ha', hx⟩ := hc (i * k + j) u (by rw [flat_at f k hf l i hi j hj]; exact hu)
  rw [ha] at ha'
  injection ha' with ha'
  subst ha'
  rw [hU.cell (World.block_lt_of_cell? w _ hx) (by simp)]; exact hx

/-- worlds in which the old blocks stand as in W, and these -/
def SU (W : World) (h : List (Nat × Obj)) (w' : World) : Prop := Upd W w' [] ∧ Owns w' h
theorem SU.drew {W w : World} {h : List (Nat × Obj)} (hU : Upd W w []) (hO : Owns w h) : SU W h w.drew := ⟨hU.trans (Upd.drew w []), hO.ext (Upd.drew w [])⟩

def in64 (n : Int) : Prop := -9223372036854775808 ≤ n ∧ n < 9223372036854775808
theorem in64_wf {n : Int} (h : (Lit.int .i64 n).wf = true) : in64 n := by
  simp only [Lit.wf, Bool.and_eq_true, decide_eq_true_eq] at h
  have e1 : IntKind.min .i64 = -9223372036854775808 := by decide
  have e2 : IntKind.max .i64 = 9223372036854775807 := by decide
  rw [e1, e2] at h
  unfold in64; omega

/-- the kinds of fields that are one cell -/
inductive Kd where
  | int (k : IntKind)
  | bool
  | str
def KdOk : Kd → Value → Prop
  | .int k, v => ∃ n, v = .int k n ∧ (Lit.int k n).wf = true
  | .bool, v => ∃ b, v = .bool b
  | .str, v => ∃ l : List UInt8, v = .string ⟨l.toArray⟩
def Kd.desc : Kd → TypeDesc → Bool
  | .int k, .int k' => k == k'
  | .bool, .bool => true
  | .str, .string => true
  | _, _ => false
def RowOk (ks : List Kd) (row : List Value) : Prop := row.length = ks.length ∧ ∀ (j : Nat) (k : Kd), ks[j]? = some k → ∃ v, row[j]? = some v ∧ KdOk k v

section
variable {H : Type} {enc : TypeId × Value → H} {P : Program} {w : World} {held : Bool}
theorem kd_of_trod {base : Nat} {spare : Nat → Bool} {t : TypeId} {k : Kd} {fuel : Nat} {v : Value} {x : DataW H × List MemPlace} (ht : (P.underlying t).map k.desc = some true) (h : DataW.trod enc P w base spare held fuel t [v] = some x) : KdOk k v := by
  cases hu : P.underlying t with
  | none => rw [hu] at ht; cases ht
  | some d =>
    rw [hu] at ht
    simp only [Option.map_some, Option.some.injEq] at ht
    cases k with
    | int k =>
      cases d <;> first | cases ht | skip
      rename_i k'
      have : k = k' := by cases k <;> cases k' <;> first | rfl | cases ht
      subst this
      obtain ⟨n, h1, _, h3⟩ := Go.DataW.trod_int hu h
      exact ⟨n, by simpa using h1, h3⟩
    | bool =>
      cases d <;> first | cases ht | skip
      obtain ⟨b, h1, _⟩ := Go.DataW.trod_bool hu h
      exact ⟨b, by simpa using h1⟩
    | str =>
      cases d <;> first | cases ht | skip
      obtain ⟨s, h1, _⟩ := Go.DataW.trod_string hu h
      obtain ⟨l, rfl⟩ := mk_surj s
      exact ⟨l, by simpa using h1⟩

def kdB (P : Program) : List Field → List Kd → Bool
  | [], [] => true
  | f :: fs, k :: ks => (P.underlying f.type).map k.desc == some true && kdB P fs ks
  | _, _ => false
theorem kdB_at : ∀ {fs : List Field} {ks : List Kd}, kdB P fs ks = true → ks.length = fs.length ∧ ∀ (j : Nat) (k : Kd), ks[j]? = some k → ∃ f, fs[j]? = some f ∧ (P.underlying f.type).map k.desc = some true
  | [], [], _ => ⟨rfl, fun j k h => by simp at h⟩
  | f :: fs, k :: ks, h => by
    simp only [kdB, Bool.and_eq_true, beq_iff_eq] at h
    obtain ⟨h1, h2⟩ := kdB_at h.2
    refine ⟨by simp [h1], fun j k' hj => ?_⟩
    cases j with
    | zero => simp at hj; subst hj; exact ⟨f, rfl, h.1⟩
    | succ j => exact h2 j k' hj
  | [], _ :: _, h => by simp [kdB] at h
  | _ :: _, [], h => by simp [kdB] at h

/-- a slice that reads the structs l -/
def RdS {α : Type} (w : World) (f : α → List Value) (k : Nat) (v : Value) (l : List α) : Prop :=
  ∃ (A : Option Addr) (c : Nat), v = .slice A l.length c ∧ l.length ≤ maxLen ∧ Rd w k (.slice A l.length c) l.length (l.flatMap f)
theorem RdS.mono {α : Type} {w w' : World} {f : α → List Value} {k : Nat} {v : Value} {l : List α} (h : RdS w f k v l) (hU : Upd w w' []) : RdS w' f k v l := by
  obtain ⟨A, c, h1, h2, h3⟩ := h
  exact ⟨A, c, h1, h2, h3.mono hU⟩

theorem open_slice_fields {base : Nat} {spare : Nat → Bool} {t e : TypeId} {fs : Array Field} {fuel : Nat} {cs : List Value} {x : DataW H × List MemPlace} (ht : P.underlying t = some (.slice e)) (he : P.underlying e = some (.struct fs))
    (hone : oneCellFields P fs = true) (hC : P.cellsOf e = fs.size) (h : DataW.trod enc P w base spare held fuel t cs = some x) :
    (cs = [.slice none 0 0] ∧ x = (.nil, [])) ∨
    ∃ (a : Addr) (len cap m : Nat), cs = [.slice (some a) len cap] ∧ len ≤ cap ∧ cap ≤ maxLen ∧ m = (if spare a.block then cap else len) ∧
      ∀ i, i < m → ∀ (j : Nat) (f : Field), fs[j]? = some f → ∃ (v : Value) (y : DataW H × List MemPlace) (n : Nat), w.cell? (a.add (i * fs.size + j)) = some v ∧ DataW.trod enc P w base spare held n f.type [v] = some y := by
  rcases open_slice ht h with h0 | ⟨a, len, cap, m, n, D, Pl, hcs, hb, hl, hm, hmm, hx, hi⟩
  · exact .inl h0
  · refine .inr ⟨a, len, cap, m, hcs, hl, hm, hmm, fun i him => ?_⟩
    obtain ⟨cs', hc, ht'⟩ := hi i him
    rw [hC] at hc
    obtain ⟨ys, n', hn', hy, hlen, hyl, hf⟩ := DataW.trod_struct he ht'
    obtain ⟨_, hcl, hat⟩ := World.cells?_some hc
    intro j f hj
    obtain ⟨ho, hk⟩ := hone_of hone j f hj
    have hjl : j < fs.size := (Array.getElem?_eq_some_iff.1 hj).1
    have hcell := hat j hjl
    have hv : cs'[j]? = some (cs'[j]'(by omega)) := List.getElem?_eq_getElem (by omega)
    have h1 := hf j f hj
    rw [ho, hk] at h1
    have hone' : (cs'.drop j).take 1 = [cs'[j]'(by omega)] := by
      rw [List.drop_eq_getElem_cons (by omega)]
      rfl
    rw [hone'] at h1
    have hys : ys[j]? = some (ys[j]'(by omega)) := List.getElem?_eq_getElem (by omega)
    refine ⟨_, _, n', ?_, h1.trans hys⟩
    rw [← add_add', hcell, hv]

theorem as_list {α : Type} {f : α → List Value} {R : α → Prop} {ok : List Value → Prop} (hα : ∀ row, ok row → ∃ o, row = f o ∧ R o) : ∀ {rows : List (List Value)}, (∀ row ∈ rows, ok row) → ∃ l : List α, rows = l.map f ∧ ∀ o ∈ l, R o
  | [], _ => ⟨[], rfl, fun o h => by cases h⟩
  | r :: rows, h => by
    obtain ⟨o, h1, h2⟩ := hα r (h r (List.mem_cons_self ..))
    obtain ⟨l, h3, h4⟩ := as_list hα (rows := rows) fun row hr => h row (List.mem_cons_of_mem _ hr)
    refine ⟨o :: l, by rw [h1, h3]; rfl, fun x hx => ?_⟩
    rcases List.mem_cons.1 hx with rfl | hx
    · exact h2
    · exact h4 x hx

theorem structs_of_trod {α : Type} {f : α → List Value} {R : α → Prop} {ks : List Kd} (hf : ∀ x, (f x).length = ks.length) (hα : ∀ row, RowOk ks row → ∃ o, row = f o ∧ R o) {t e : TypeId} {fs : Array Field} {fuel : Nat} {v : Value} {x : DataW H × List MemPlace} (ht : P.underlying t = some (.slice e)) (he : P.underlying e = some (.struct fs))
    (hone : oneCellFields P fs = true) (hC : P.cellsOf e = fs.size) (hks : kdB P fs.toList ks = true) (h : DataW.trod enc P w 0 (fun _ => true) held fuel t [v] = some x) :
    ∃ l : List α, RdS w f ks.length v l ∧ ∀ o ∈ l, R o := by
  obtain ⟨hkl, hka⟩ := kdB_at hks
  have hkl : ks.length = fs.size := by simpa using hkl
  rcases open_slice_fields ht he hone hC h with ⟨hcs, _⟩ | ⟨a, len, cap, m, hcs, hl, hm, hmm, hi⟩
  · simp at hcs
    subst hcs
    exact ⟨[], ⟨none, 0, rfl, Nat.zero_le _, Rd.nil_ _ _⟩, fun o h => by cases h⟩
  · simp at hcs
    subst hcs
    simp at hmm
    obtain rfl := hmm
    have key : ∀ i, i < len → ∃ row : List Value, RowOk ks row ∧ ∀ j u, row[j]? = some u → w.cell? (a.add (i * ks.length + j)) = some u := by
      intro i him
      have h1 : ∀ j, j < ks.length → ∃ v : Value, w.cell? (a.add (i * ks.length + j)) = some v ∧ ∀ k, ks[j]? = some k → KdOk k v := by
        intro j hj
        obtain ⟨k, hk⟩ : ∃ k, ks[j]? = some k := ⟨_, List.getElem?_eq_getElem hj⟩
        obtain ⟨f', hf', hd⟩ := hka j k hk
        obtain ⟨v, y, n, hc, ht'⟩ := hi i (by omega) j f' (by rw [← Array.getElem?_toList]; exact hf')
        rw [← hkl] at hc
        refine ⟨v, hc, fun k' hk' => ?_⟩
        rw [hk] at hk'; injection hk' with hk'; subst hk'
        exact kd_of_trod hd ht'
      obtain ⟨V, hV⟩ := Deep.choose_lt h1
      refine ⟨(List.range ks.length).map V, ⟨by simp, fun j k hk => ?_⟩, fun j u hu => ?_⟩
      · have hj : j < ks.length := (List.getElem?_eq_some_iff.1 hk).1
        exact ⟨V j, by simp [hj], (hV j hj).2 k hk⟩
      · obtain ⟨hj, he⟩ := List.getElem?_eq_some_iff.1 hu
        simp at hj he
        subst he
        exact (hV j hj).1
    obtain ⟨F, hF⟩ := Deep.choose_lt key
    obtain ⟨l, hl1, hl2⟩ := as_list hα (rows := (List.range len).map F) (fun row hr => by
      obtain ⟨i, hi, rfl⟩ := List.mem_map.1 hr
      exact (hF i (by simpa using hi)).1)
    have hlen : l.length = len := by
      have := congrArg List.length hl1
      simpa using this.symm
    refine ⟨l, ⟨some a, m, by rw [hlen], by omega, ?_⟩, hl2⟩
    rw [hlen]
    refine ⟨some a, m, rfl, hl, by rw [flat_len f _ hf, hlen], fun j u hu => ⟨a, rfl, ?_⟩⟩
    have hj : j < len * ks.length := by
      have := (List.getElem?_eq_some_iff.1 hu).1
      rw [flat_len f _ hf, hlen] at this; exact this
    have hk0 : 0 < ks.length := by
      rcases Nat.eq_zero_or_pos ks.length with h0 | h0
      · rw [h0] at hj; omega
      · exact h0
    have hq : j / ks.length < len := Nat.div_lt_of_lt_mul (by rw [Nat.mul_comm]; exact hj)
    have hdm : j / ks.length * ks.length + j % ks.length = j := by rw [Nat.mul_comm]; exact Nat.div_add_mod j ks.length
    rw [← hdm]
    refine (hF _ hq).2 _ u ?_
    rw [← hdm, flat_at f _ hf l _ (by omega) _ (Nat.mod_lt _ hk0)] at hu
    have : (l.map f)[j / ks.length]? = some (F (j / ks.length)) := by rw [← hl1]; simp [hq]
    rw [List.getElem?_map, List.getElem?_eq_getElem (by omega)] at this
    simp at this
    rw [← this]; exact hu

/-- the fields of a struct that is handed in by value -/
theorem open_fields {base : Nat} {spare : Nat → Bool} {r : Reach} {b0 : Nat} {t : TypeId} {fs : Array Field} {v : Value} {d : DataW H} {p : List MemPlace} (hs : P.underlying t = some (.struct fs)) (hone : oneCellFields P fs = true) (hC : P.cellsOf t = fs.size)
    (hv : Value.okWide P w r b0 t v) (h : DataW.Trod enc P w base spare held t v d p) : ∃ row : List Value, v = .agg row.toArray ∧ row.length = fs.size ∧ ∀ (j : Nat) (f : Field), fs[j]? = some f → ∃ (u : Value) (y : DataW H × List MemPlace) (n : Nat), row[j]? = some u ∧ DataW.trod enc P w base spare held n f.type [u] = some y := by
  obtain ⟨cs, rfl, hsz⟩ := okWide_struct hs hv
  obtain ⟨l⟩ := cs
  obtain ⟨fuel, hf⟩ := h
  obtain ⟨xs, n, _, hx, _, hlen, hg⟩ := DataW.trod_struct hs hf
  have hl : l.length = fs.size := by rw [← hC]; simpa using hsz
  refine ⟨l, rfl, hl, fun j f hj => ?_⟩
  obtain ⟨ho, hk⟩ := hone_of hone j f hj
  have hjl : j < fs.size := (Array.getElem?_eq_some_iff.1 hj).1
  have h1 := hg j f hj
  have hcl : (Value.agg l.toArray).cells.toList = l := rfl
  rw [ho, hk, hcl] at h1
  have hone' : (l.drop j).take 1 = [l[j]'(by omega)] := by
    rw [List.drop_eq_getElem_cons (by omega)]
    rfl
  rw [hone'] at h1
  have hxs : xs[j]? = some (xs[j]'(by omega)) := List.getElem?_eq_getElem (by omega)
  exact ⟨_, _, n, List.getElem?_eq_getElem (by omega), h1.trans hxs⟩

theorem struct_of_trod {base : Nat} {spare : Nat → Bool} {α : Type} {f : α → List Value} {R : α → Prop} {ks : List Kd} (hα : ∀ row, RowOk ks row → ∃ o, row = f o ∧ R o) {r : Reach} {b0 : Nat} {t : TypeId} {fs : Array Field} {v : Value} {d : DataW H} {p : List MemPlace} (hs : P.underlying t = some (.struct fs)) (hone : oneCellFields P fs = true) (hC : P.cellsOf t = fs.size) (hks : kdB P fs.toList ks = true)
    (hv : Value.okWide P w r b0 t v) (h : DataW.Trod enc P w base spare held t v d p) : ∃ o, v = .agg (f o).toArray ∧ R o := by
  obtain ⟨row, rfl, hl, hi⟩ := open_fields hs hone hC hv h
  obtain ⟨hkl, hka⟩ := kdB_at hks
  have hkl : ks.length = fs.size := by simpa using hkl
  obtain ⟨o, rfl, ho⟩ := hα row ⟨by omega, fun j k hk => by
    obtain ⟨f', hf', hd⟩ := hka j k hk
    obtain ⟨v, y, n, hc, ht'⟩ := hi j f' (by rw [← Array.getElem?_toList]; exact hf')
    exact ⟨v, hc, kd_of_trod hd ht'⟩⟩
  exact ⟨o, rfl, ho⟩
end
end Go.Proofs.Ytplpjikcgheiiaa

/- append of a string onto a row of bytes. -/
namespace Go.Proofs.Ytplpjikcgheiiaa
open Go Xf Go.RowKit
set_option linter.unusedVariables false
set_option linter.unusedSimpArgs false

section
variable {P : Program} {w W : World} {K : Value → World → Prop}

theorem bytes_cells (l : List UInt8) : ((⟨l.toArray⟩ : ByteArray).extract 0 l.length).data.map (fun b => Value.int .u8 b.toNat) = (bytesV l).toArray := by
  rw [ByteArray.data_extract]
  apply Array.ext'
  simp [bytesV]

theorem run_append_str (w : World) (t s8 ty e : TypeId) (i : TypeInfo) (z : Value) (bytes : Nat) (ht : P.underlying t = some (.slice e)) (hs8 : P.underlying s8 = some .string) (hi : P.info? e = some i) (hz : i.zero = some z)
    (hsize : i.size = 1) (hby : i.bytes = bytes) (hzs : z.cells.size = 1)
    (v : Value) (n : Nat) (xs : List Value) (hown : w.ownsRow 0 e 1 v n xs) (l : List UInt8) (h63 : n + l.length ≤ maxLen) (hbytes : (n + l.length) * bytes ≤ 140737488355328) :
    ∃ v' w', (Builtin.append_ #[t, s8] ty #[v, .string ⟨l.toArray⟩]).run P w = .ok v' w' ∧ w'.ownsRow 0 e 1 v' (n + l.length) (xs ++ bytesV l) ∧ w.grownBy w' v.ownBlock ∧ (v'.ownBlock = v.ownBlock ∨ v'.ownBlock = some w.heap.size) := by
  subst hby
  have hsmall : n + l.length ≤ 9223372036854775807 := by simp only [maxLen] at h63; omega
  have hlb : (bytesV l).length = l.length := bytesV_len l
  have hlen : (xs ++ bytesV l).length = (n + l.length) * 1 := by rw [List.length_append, hown.1, hlb]; omega
  have hss : (⟨l.toArray⟩ : ByteArray).size = l.length := size_mk l
  have grown : ∀ (old : Nat), old < n + l.length → ∀ (row : Option Nat),
      (w.drew.alloc (.cells (xs.toArray ++ (bytesV l).toArray ++ Builtin.zeroCells z.cells (grownCap w (n + l.length) old e - (n + l.length))) e)).ownsRow 0 e 1
        (.slice (some ⟨w.heap.size, 0, none⟩) (n + l.length) (grownCap w (n + l.length) old e)) (n + l.length) (xs ++ bytesV l) ∧
      w.grownBy (w.drew.alloc (.cells (xs.toArray ++ (bytesV l).toArray ++ Builtin.zeroCells z.cells (grownCap w (n + l.length) old e - (n + l.length))) e)) row := by
    intro old ho row
    have hge := grownCap_ge w (n + l.length) old e
    have hcm : grownCap w (n + l.length) old e ≤ maxLen := grownCap_le_maxLen w (n + l.length) old e h63
    refine ⟨⟨hlen, .inr ⟨w.heap.size, _, _, rfl, Nat.zero_le _, heap_alloc_new w.drew _, hge, hcm, ?_, ?_⟩⟩, ⟨rfl, rfl, rfl, by simp, fun k hk _ => heap_alloc_old w.drew _ hk⟩⟩
    · have h1 := hown.1
      simp only [Array.size_append, List.size_toArray, size_zeroCells, hzs, h1, hlb]
      omega
    · simp only [Array.toList_append, List.append_assoc]
      rw [← List.append_assoc, ← hlen]
      exact List.take_left
  rcases hown.2 with ⟨rfl, rfl⟩ | ⟨g, cap, cur, rfl, hbg, hg, hnc, hcm, hcs, htake⟩
  · have hx : xs = [] := List.eq_nil_of_length_eq_zero (by simpa using hown.1)
    subst hx
    by_cases hm : l.length = 0
    · have hn : l = [] := List.eq_nil_of_length_eq_zero hm
      subst hn
      refine ⟨.slice none 0 0, w, ?_, World.ownsRow_nil w 0 e 1, ⟨rfl, rfl, rfl, Nat.le_refl _, fun _ _ _ => rfl⟩, Or.inl rfl⟩
      simp [Builtin.append_, run_underlying ht, run_underlying hs8, sizeOf, typeInfo, hi, Builtin.lenOf, Builtin.firstCells, ByteArray.size]
    · have hr := run_append_nil_string (P := P) w t s8 ty e i z ht hs8 hi hz ⟨l.toArray⟩ (by omega) (by omega) (by rw [hss]; have hb := hbytes; simp only [Nat.zero_add] at hb; omega)
      have hgr := grown 0 (by omega) (Value.ownBlock (.slice none 0 0))
      rw [hss] at hr
      have hd : Array.map (fun b : UInt8 => Value.int IntKind.u8 (b.toNat : Int)) (⟨l.toArray⟩ : ByteArray).data = (bytesV l).toArray := by apply Array.ext'; simp [bytesV]
      rw [hd] at hr
      simp only [Nat.zero_add, List.nil_append, Array.empty_append] at hgr ⊢
      exact ⟨_, _, hr, hgr.1, hgr.2, Or.inr rfl⟩
  · have hf : (Builtin.firstCells 1 l.length (.string ⟨l.toArray⟩)).run P w = .ok (bytesV l).toArray w := by
      show (pure _ : Sem (Array Value)).run P w = _
      rw [bytes_cells]; rfl
    have hfd : (Builtin.firstCells 1 l.length (.string ⟨l.toArray⟩)).run P w.drew = .ok (bytesV l).toArray w.drew := by
      show (pure _ : Sem (Array Value)).run P w.drew = _
      rw [bytes_cells]; rfl
    by_cases hroom : n + l.length ≤ cap
    · have hfit : n + (bytesV l).length ≤ cur.size := by rw [hlb, hcs]; omega
      have hst := run_storeCells_at P g n e (bytesV l) 0 cur w hg (by simpa using hfit) (bytesV_one l)
      simp only [Nat.add_zero] at hst
      have hr : (Builtin.append_ #[t, s8] ty #[.slice (some ⟨g, 0, none⟩) n cap, .string ⟨l.toArray⟩]).run P w =
          .ok (.slice (some ⟨g, 0, none⟩) (n + l.length) cap) (w.setRow g (cur.toList.take n ++ bytesV l ++ cur.toList.drop (n + (bytesV l).length)).toArray) := by
        simp [Builtin.append_, run_underlying ht, run_underlying hs8, sizeOf, typeInfo, hi, hsize, Builtin.lenOf, hss, hroom, hf, Addr.add_lit, hst]
      refine ⟨_, _, hr, ⟨hlen, .inr ⟨g, cap, _, rfl, hbg, setRow_heap w g cur _ e _ hg, hroom, hcm, ?_, ?_⟩⟩, ⟨rfl, rfl, rfl, by simp, fun k _ hk => setRow_other w g k _ (fun e => hk (by simp [Value.ownBlock, e]))⟩, Or.inl rfl⟩
      · simp only [List.size_toArray, List.length_append, List.length_take, List.length_drop, Array.length_toList]
        omega
      · have ht1 : cur.toList.take n = xs := by rw [← htake, Nat.mul_one]
        rw [ht1, ← hlen]
        exact List.take_left
    · have holds : ∀ j u, xs[j]? = some u → w.cell? ((⟨g, 0, none⟩ : Addr).add j) = some u := hown.cells (g := g) rfl
      have hn : ¬ (n + l.length ≤ cap) := by omega
      have h63' : ¬ (9223372036854775807 < ((n : Int) + (l.length : Int))) := by omega
      have h48 := growslice_fits (need := n + l.length) (old := cap) (bytes := i.bytes) (by omega) hbytes
      have h48' : ¬ (281474976710656 < Builtin.nextslicecap (n + l.length) cap * i.bytes) := by omega
      have hfo := run_firstCells_some (P := P) w.drew 1 n ⟨g, 0, none⟩ n cap xs hown.1 (by simpa using holds)
      have hr : (Builtin.append_ #[t, s8] ty #[.slice (some ⟨g, 0, none⟩) n cap, .string ⟨l.toArray⟩]).run P w =
          .ok (.slice (some ⟨w.heap.size, 0, none⟩) (n + l.length) (grownCap w (n + l.length) cap e))
            (w.drew.alloc (.cells (xs.toArray ++ (bytesV l).toArray ++ Builtin.zeroCells z.cells (grownCap w (n + l.length) cap e - (n + l.length))) e)) := by
        simp [Builtin.append_, run_underlying ht, run_underlying hs8, sizeOf, typeInfo, zeroValue, hi, hz, hsize, Builtin.lenOf, hss, hn, h63', h48', Question.forced, hfd, hfo, newRow, grownCap]
        congr 2
        apply Array.ext'
        simp [List.append_assoc]
      have hgr := grown cap (by omega) (Value.ownBlock (.slice (some ⟨g, 0, none⟩) n cap))
      exact ⟨_, _, hr, hgr.1, hgr.2, Or.inr rfl⟩

/-- append onto a row of bytes that is known, of a string -/
theorem st_appendS {t s8 e ty : TypeId} {c : List Bool} {i : TypeInfo} {z : Value} {sz bytes : Nat} (ht : P.underlying t = some (.slice e)) (hi : P.info? e = some i) (hz : i.zero = some z) (hs : i.size = sz) (hb : i.bytes = bytes) (hzs : z.cells.size = sz) (hsz : sz = 1) (hs8 : P.underlying s8 = some .string)
    {v : Value} {n : Nat} {xs : List Value} {l : List UInt8} {h F : List (Nat × Obj)} {ks : List Nat} (hr : RowH e sz v n xs h) (hO : Owns w (h ++ F)) (hU : Upd W w ks) (hh : ∀ p ∈ h, p.1 ∈ ks ∨ W.heap.size ≤ p.1)
    (h63 : n + l.length ≤ maxLen) (hby : (n + l.length) * bytes ≤ 140737488355328)
    (hk : ∀ v' w' h', RowH e sz v' (n + l.length) (xs ++ bytesV l) h' → Owns w' (h' ++ F) → Upd W w' ks → (∀ p ∈ h', p.1 ∈ ks ∨ W.heap.size ≤ p.1) → K v' w') : (std P).step (sBuiltin .append #[t, s8] ty c [v, .string ⟨l.toArray⟩]) w K := by
  have hown := hr.owns hO
  subst hsz
  have key : ∃ v' w', (Builtin.append_ #[t, s8] ty #[v, .string ⟨l.toArray⟩]).run P w = .ok v' w' ∧ w'.ownsRow 0 e 1 v' (n + l.length) (xs ++ bytesV l) ∧ w.grownBy w' v.ownBlock ∧ (v'.ownBlock = v.ownBlock ∨ v'.ownBlock = some w.heap.size) :=
    run_append_str w t s8 ty e i z bytes ht hs8 hi hz hs hb hzs v n xs hown l h63 hby
  obtain ⟨v', w', hrun, h2, h3, h5⟩ := key
  have hstep : (sBuiltin .append #[t, s8] ty c [v, .string ⟨l.toArray⟩]).run P w = .ok (.value v') w' := by
    show (do pure (.value (← Builtin.append_ #[t, s8] ty #[v, .string ⟨l.toArray⟩])) : Sem Next).run P w = _
    rw [Sem.run_bind, hrun]
    rfl
  rw [step_run hstep]
  -- the block of the row
  have hvb : ∀ b, v.ownBlock = some b → ∃ cs, h = [(b, .cells cs e (0, 0))] := fun b hb => by
    rcases hr.2 with ⟨rfl, _⟩ | ⟨g, cap, cs, rfl, rfl, _⟩
    · cases hb
    · cases hb; exact ⟨cs, rfl⟩
  have hupd : Upd w w' (h.map (·.1)) := ⟨h3.os, h3.tape, h3.output, h3.size, fun b hb hn => h3.block b hb fun he => by
    obtain ⟨cs, rfl⟩ := hvb b he.symm
    exact hn (by simp)⟩
  have hU' : Upd W w' ks := hU.then_ hupd fun x hx => by
    obtain ⟨p, hp, rfl⟩ := List.mem_map.1 hx
    exact hh p hp
  have hOF : Owns w' F := by
    have hF : Owns w F := hO.sub (List.sublist_append_right h F)
    refine hF.upd hupd fun p hp hm => ?_
    have hnd := hO.1
    rw [List.map_append] at hnd
    exact (List.nodup_append.1 hnd).2.2 _ hm _ (List.mem_map_of_mem hp) rfl
  rcases h2.2 with ⟨rfl, hnm⟩ | ⟨g, cap, cur, rfl, _, hg, hn, hcm, hcs, htake⟩
  · exact hk _ _ [] ⟨h2.1, .inl ⟨rfl, hnm, rfl⟩⟩ hOF hU' (fun p hp => by cases hp)
  · refine hk _ _ [(g, .cells cur e (0, 0))] ⟨h2.1, .inr ⟨g, cap, cur, rfl, rfl, hn, hcm, hcs, htake⟩⟩ ⟨?_, ?_⟩ hU' ?_
    · simp only [List.singleton_append, List.map_cons]
      refine List.nodup_cons.2 ⟨fun hm => ?_, hOF.1⟩
      rcases h5 with h5 | h5
      · obtain ⟨cs, rfl⟩ := hvb g h5.symm
        have hnd := hO.1
        simp only [List.singleton_append, List.map_cons] at hnd
        exact (List.nodup_cons.1 hnd).1 hm
      · obtain ⟨p, hp, he⟩ := List.mem_map.1 hm
        have := (hO.sub (List.sublist_append_right h F)).lt hp
        have : g = w.heap.size := by cases h5; rfl
        omega
    · intro p hp
      rcases List.mem_append.1 hp with hp | hp
      · simp at hp; subst hp; exact hg
      · exact hOF.2 p hp
    · intro p hp
      simp at hp
      subst hp
      rcases h5 with h5 | h5
      · obtain ⟨cs, rfl⟩ := hvb g h5.symm
        exact (hh (g, .cells cs e (0, 0)) (by simp) : g ∈ ks ∨ W.heap.size ≤ g)
      · have : g = w.heap.size := by cases h5; rfl
        right
        rw [this]
        exact hU.size


end
end Go.Proofs.Ytplpjikcgheiiaa

/- Ported from another seat (enc/M.lean). -/
namespace Go.Proofs.Ytplpjikcgheiiaa.Enc
open Go Go.Proofs.Ytplpjikcgheiiaa Xf Go.RowKit
set_option linter.unusedVariables false
set_option linter.unusedSimpArgs false
set_option maxRecDepth 100000

theorem w64 {a : Int} (h0 : -9223372036854775808 ≤ a) (h1 : a < 9223372036854775808) : IntKind.wrap .i64 a = a := by
  rw [IntKind.wrap_i64]; omega
theorem wrapU8 (n : Nat) : IntKind.wrap .u8 (n : Int) = ((n % 256 : Nat) : Int) := by simp [IntKind.wrap, IntKind.bits, IntKind.signed]
theorem wrapU16 (n : Nat) : IntKind.wrap .u16 (n : Int) = ((n % 65536 : Nat) : Int) := by simp [IntKind.wrap, IntKind.bits, IntKind.signed]
theorem wrapU32 (n : Nat) : IntKind.wrap .u32 (n : Int) = ((n % 4294967296 : Nat) : Int) := by simp [IntKind.wrap, IntKind.bits, IntKind.signed]
theorem wrapU64 (n : Nat) : IntKind.wrap .u64 (n : Int) = ((n % 18446744073709551616 : Nat) : Int) := by simp [IntKind.wrap, IntKind.bits, IntKind.signed]
theorem two256 (i : Nat) : 2 ^ (8 * i) = 256 ^ i := by rw [Nat.pow_mul]
theorem shrU (n i : Nat) (hi : i ≤ 8) : Int.fdiv (n : Int) (2 ^ (min (Int.toNat (8 * (i : Int))) (IntKind.bits .u64))) = ((n / 256 ^ i : Nat) : Int) := by
  rw [show Int.toNat (8 * (i : Int)) = 8 * i by omega, show IntKind.bits .u64 = 64 from rfl, Nat.min_eq_left (by omega), ← two256 i]
  rw [Int.fdiv_eq_ediv_of_nonneg _ (by exact_mod_cast Nat.zero_le _)]
  norm_cast
theorem shlU (n i : Nat) (hi : i ≤ 8) : (n : Int) * 2 ^ (min (Int.toNat (8 * (i : Int))) (IntKind.bits .u64)) = ((n * 256 ^ i : Nat) : Int) := by
  rw [show Int.toNat (8 * (i : Int)) = 8 * i by omega, show IntKind.bits .u64 = 64 from rfl, Nat.min_eq_left (by omega), ← two256 i]
  norm_cast

theorem mk_extract (l : List UInt8) (a b : Nat) : (⟨l.toArray⟩ : ByteArray).extract a b = ⟨((l.drop a).take (b - a)).toArray⟩ := by
  apply ByteArray.ext
  apply Array.ext'
  rw [ByteArray.data_extract]
  simp [List.extract_eq_take_drop]
/-- x[:hi] and x[lo:] of a string -/
theorem run_strTo {P : Program} {w : World} {t : TypeId} {l : List UInt8} {q : IntKind} {i : Int} (ht : P.underlying t = some .string) (h0 : 0 ≤ i) (h1 : i ≤ l.length) :
    (sSlice t (.string ⟨l.toArray⟩) none (some (.int q i)) none).run P w = .ok (.value (.string ⟨(l.take i.toNat).toArray⟩)) w := by
  unfold sSlice Instr.sliceAt
  rw [run_sV, Sem.run_bind, run_underlying' ht]
  have hb : i ≤ ((⟨l.toArray⟩ : ByteArray).size : Nat) := by rw [size_mk]; exact h1
  simp only [Result.andThen_ok, Instr.slice, Sem.run_bind, run_underlying' ht, Instr.sliceBounds, Sem.run_pure, sliceBound_run h0 hb, Option.isSome_none, Bool.false_eq_true, if_false, mk_extract, List.drop_zero, Nat.sub_zero]
theorem run_strFrom {P : Program} {w : World} {t : TypeId} {l : List UInt8} {q : IntKind} {i : Int} (ht : P.underlying t = some .string) (h0 : 0 ≤ i) (h1 : i ≤ l.length) :
    (sSlice t (.string ⟨l.toArray⟩) (some (.int q i)) none none).run P w = .ok (.value (.string ⟨(l.drop i.toNat).toArray⟩)) w := by
  unfold sSlice Instr.sliceAt
  rw [run_sV, Sem.run_bind, run_underlying' ht]
  have hb : i ≤ ((⟨l.toArray⟩ : ByteArray).size : Nat) := by rw [size_mk]; exact h1
  simp only [Result.andThen_ok, Instr.slice, Sem.run_bind, run_underlying' ht, Instr.sliceBounds, Sem.run_pure, sliceBound_run h0 h1, Option.isSome_none, Bool.false_eq_true, if_false, mk_extract, size_mk, Result.andThen_ok]
  rw [List.take_of_length_le (by rw [List.length_drop]; exact Nat.le_refl _)]

/-- the bytes of a number, the lowest one first -/
def leB (n k : Nat) : List UInt8 := (List.range k).map fun i => UInt8.ofNat (n / 256 ^ i)
theorem leB_len (n k : Nat) : (leB n k).length = k := by simp [leB]
theorem leB_succ (n k : Nat) : leB n (k + 1) = leB n k ++ [UInt8.ofNat (n / 256 ^ k)] := by simp [leB, List.range_succ]
def leVal : List UInt8 → Nat
  | [] => 0
  | b :: l => b.toNat + 256 * leVal l
theorem leVal_snoc (l : List UInt8) (b : UInt8) : leVal (l ++ [b]) = leVal l + b.toNat * 256 ^ l.length := by
  induction l with
  | nil => simp [leVal]
  | cons a l ih =>
    show a.toNat + 256 * leVal (l ++ [b]) = a.toNat + 256 * leVal l + b.toNat * 256 ^ (l.length + 1)
    rw [ih, Nat.pow_succ, Nat.mul_add, Nat.add_assoc]
    congr 2
    rw [Nat.mul_left_comm, Nat.mul_comm 256]
theorem leVal_lt (l : List UInt8) : leVal l < 256 ^ l.length := by
  induction l with
  | nil => simp [leVal]
  | cons a l ih =>
    show a.toNat + 256 * leVal l < 256 ^ (l.length + 1)
    have := UInt8.toNat_lt a
    rw [Nat.pow_succ]
    omega
theorem ofNat_toNat8 (n : Nat) : (UInt8.ofNat n).toNat = n % 256 := by simp
theorem leVal_leB (n : Nat) : ∀ k, leVal (leB n k) = n % 256 ^ k
  | 0 => by simp [leB, leVal, Nat.mod_one]
  | k + 1 => by
    rw [leB_succ, leVal_snoc, leVal_leB n k, leB_len, ofNat_toNat8, Nat.pow_succ]
    have := Nat.mod_mul (a := 256 ^ k) (b := 256) (x := n)
    rw [this, Nat.mul_comm (256 ^ k)]

/-- a writer: block g, with the bytes l -/
def WI (W : World) (F : List (Nat × Obj)) (g : Nat) (l : List UInt8) (w : World) : Prop :=
  ∃ (v : Value) (h : List (Nat × Obj)), RowH 5 1 v l.length (bytesV l) h ∧ Owns w (h ++ ((g, .cells #[v] 129 (0, 0)) :: F)) ∧ Upd W w [] ∧ (∀ p ∈ h, W.heap.size ≤ p.1) ∧ W.heap.size ≤ g

theorem WI.mid {W w : World} {F : List (Nat × Obj)} {g : Nat} {l : List UInt8} (h : WI W F g l w) : Upd W w [] := by obtain ⟨_, _, _, _, h, _⟩ := h; exact h
theorem WI.ext {W w w' : World} {F : List (Nat × Obj)} {g : Nat} {l : List UInt8} (h : WI W F g l w) (hU : Upd w w' []) : WI W F g l w' := by
  obtain ⟨v, hh, h1, h2, h3, h4, h5⟩ := h
  exact ⟨v, hh, h1, h2.ext hU, h3.trans hU, h4, h5⟩
/-- one block more that is kept -/
theorem WI.push {W w w' : World} {F : List (Nat × Obj)} {g : Nat} {l : List UInt8} {p : Nat × Obj} (h : WI W F g l w) (hU : Upd w w' []) (hp : w'.heap[p.1]? = some p.2) (hg : w.heap.size ≤ p.1) : WI W (p :: F) g l w' := by
  obtain ⟨v, hh, h1, h2, h3, h4, h5⟩ := h
  refine ⟨v, hh, h1, ?_, h3.trans hU, h4, h5⟩
  have hO : Owns w' (p :: (hh ++ ((g, .cells #[v] 129 (0, 0)) :: F))) := by
    refine ⟨?_, fun q hq => ?_⟩
    · simp only [List.map_cons, List.nodup_cons]
      refine ⟨fun hm => ?_, h2.1⟩
      obtain ⟨q, hq, he⟩ := List.mem_map.1 hm
      have := h2.lt hq
      omega
    · rcases List.mem_cons.1 hq with rfl | hq
      · exact hp
      · exact (h2.ext hU).2 q hq
  refine hO.perm ?_
  refine (List.perm_middle (a := p) (l₁ := hh) (l₂ := (g, Obj.cells #[v] 129 (0, 0)) :: F)).symm.trans ?_
  exact List.Perm.append_left hh (List.Perm.swap _ _ _)
theorem WI.pop {W w : World} {F : List (Nat × Obj)} {g : Nat} {l : List UInt8} {p : Nat × Obj} (h : WI W (p :: F) g l w) : WI W F g l w := by
  obtain ⟨v, hh, h1, h2, h3, h4, h5⟩ := h
  exact ⟨v, hh, h1, h2.sub (List.Sublist.append (List.Sublist.refl _) (.cons_cons _ (.cons _ (List.Sublist.refl _)))), h3, h4, h5⟩

theorem neW {x y : Operand} {a : Addr} {w : World} : (sBin .eql 101 x y (.pointer (some a)) (.pointer none)).run Try.prog w = .ok (.value (.bool false)) w := by kernel_rfl
theorem eqW {x y : Operand} {w : World} : (sBin .eql 101 x y (.pointer none) (.pointer none)).run Try.prog w = .ok (.value (.bool true)) w := by kernel_rfl
theorem neR {x y : Operand} {a : Addr} {w : World} : (sBin .eql 146 x y (.pointer (some a)) (.pointer none)).run Try.prog w = .ok (.value (.bool false)) w := by kernel_rfl
theorem eqR {x y : Operand} {w : World} : (sBin .eql 146 x y (.pointer none) (.pointer none)).run Try.prog w = .ok (.value (.bool true)) w := by kernel_rfl
theorem neR' {x y : Operand} {a : Addr} {w : World} : (sBin .neq 146 x y (.pointer (some a)) (.pointer none)).run Try.prog w = .ok (.value (.bool true)) w := by kernel_rfl
theorem eqR' {x y : Operand} {w : World} : (sBin .neq 146 x y (.pointer none) (.pointer none)).run Try.prog w = .ok (.value (.bool false)) w := by kernel_rfl
theorem NP : (∀ {x y : Operand} {a : Addr} {w : World} {K : Value → World → Prop}, (std Try.prog).step (sBin .eql 101 x y (.pointer (some a)) (.pointer none)) w K = K (.bool false) w) ∧
  (∀ {x y : Operand} {w : World} {K : Value → World → Prop}, (std Try.prog).step (sBin .eql 101 x y (.pointer none) (.pointer none)) w K = K (.bool true) w) ∧
  (∀ {x y : Operand} {a : Addr} {w : World} {K : Value → World → Prop}, (std Try.prog).step (sBin .eql 146 x y (.pointer (some a)) (.pointer none)) w K = K (.bool false) w) ∧
  (∀ {x y : Operand} {w : World} {K : Value → World → Prop}, (std Try.prog).step (sBin .eql 146 x y (.pointer none) (.pointer none)) w K = K (.bool true) w) ∧
  (∀ {x y : Operand} {a : Addr} {w : World} {K : Value → World → Prop}, (std Try.prog).step (sBin .neq 146 x y (.pointer (some a)) (.pointer none)) w K = K (.bool true) w) ∧
  (∀ {x y : Operand} {w : World} {K : Value → World → Prop}, (std Try.prog).step (sBin .neq 146 x y (.pointer none) (.pointer none)) w K = K (.bool false) w) :=
  ⟨step_run neW, step_run eqW, step_run neR, step_run eqR, step_run neR', step_run eqR'⟩
end Go.Proofs.Ytplpjikcgheiiaa.Enc

/- Ported from another seat (enc/S.lean). -/
namespace Go.Proofs.Ytplpjikcgheiiaa.Enc
open Go Go.Proofs.Ytplpjikcgheiiaa Xf Go.RowKit
set_option linter.unusedVariables false
set_option linter.unusedSimpArgs false
set_option maxRecDepth 100000

theorem New_spec (W : World) : CallsR Try.prog 42 #[] W fun r w' => ∃ g, r = .pointer (some ⟨g, 0, none⟩) ∧ WI W [] g [] w' := by
  apply enc_New_sound
  unfold enc_New_x
  rw [step_run (show (sBuild 129 []).run Try.prog W = .ok (.value (.agg #[.slice none 0 0])) W by kernel_rfl)]
  refine st_box (Upd.refl W []) (Owns.nil W) ?_
  intro g w1 hU1 hO1 hg
  exact ⟨g, rfl, .slice none 0 0, [], RowH.nil_ _ _, hO1, hU1, (fun p hp => by cases hp), hg⟩

theorem one_byte (b : UInt8) (w : World) : (sBuildSlice 51 1 [(0, .int .u8 (b.toNat : Nat))]).run Try.prog w = .ok (.value (.slice (some ⟨w.heap.size, 0, none⟩) 1 1)) (w.alloc (.cells (bytesV [b]).toArray 5)) := by kernel_rfl

theorem num_nil (a b : Value) (w : World) : CallsR Try.prog 68 #[.pointer none, a, b] w fun r w' => w' = w := by
  apply enc_Writer_num_sound
  unfold enc_Writer_num_x
  simp only [NP, BX]

theorem num_spec {W w : World} {F : List (Nat × Obj)} {g : Nat} {l : List UInt8} (n k : Nat) (hk : k ≤ 8) (hl : l.length + k ≤ 140737488355000) (h : WI W F g l w) :
    CallsR Try.prog 68 #[.pointer (some ⟨g, 0, none⟩), .int .u64 (n : Nat), .int .i64 (k : Nat)] w fun r w' => WI W F g (l ++ leB n k) w' := by
  apply enc_Writer_num_sound
  unfold enc_Writer_num_x
  simp only [NP, BX]
  refine st_loop (fun vs w' => ∃ i : Nat, i ≤ k ∧ vs.getD 1 undef = .int .i64 i ∧ WI W F g (l ++ leB n i) w') (fun vs _ => k - (intOf (vs.getD 1 undef)).toNat) ⟨0, by omega, rfl, by simpa [leB] using h⟩ ?_
  rintro dv vs w1 - ⟨i, hi, e1, hW⟩
  simp (disch := omega) only [e1, PX, BX]
  refine ⟨fun hlt => ?_, fun hge => ?_⟩
  · obtain ⟨v, hh, hrow, hO, hU, hhs, hg⟩ := hW
    have hlen : (l ++ leB n i).length = l.length + i := by rw [List.length_append, leB_len]
    let S : World → Prop := fun w' => Upd W w' [] ∧ w'.cell? ⟨g, 0, none⟩ = some v
    have hcell : ∀ {w' : World} {hh' F' : List (Nat × Obj)}, Owns w' (hh' ++ ((g, .cells #[v] 129 (0, 0)) :: F')) → w'.cell? ⟨g, 0, none⟩ = some v := fun hO => cell_at ((hO.sub (List.sublist_append_right _ _)).at_ 0 rfl)
    have hO1 := hO.ext (Upd.drew w1 [])
    have hU1 := hU.trans (Upd.drew w1 [])
    have hS1 : S w1.drew := ⟨hU1, hcell hO1⟩
    have hne : ∃ w', S w' := ⟨_, hS1⟩
    refine st_draw S hS1 ?_
    have c0 : ∀ w', S w' → w'.cell? ⟨g, 0, none⟩ = some v := fun w' h => h.2
    simp (disch := first | assumption | omega) only [SX, SLX, w64]
    rw [shrU n i (by omega), wrapU8, ← ofNat_toNat8]
    refine st_newRow (one_byte _) hU1 hO1 ?_
    intro g2 w2 hU2 hO2 hg2
    refine st_same ⟨hU2, hcell (hO2.sub (.cons _ (List.Sublist.refl _)))⟩ ?_
    obtain ⟨inf, hi1, hz1, hs, hb⟩ := inf5
    refine st_append (F := (g2, Obj.cells (bytesV [UInt8.ofNat (n / 256 ^ i)]).toArray 5 (0, 0)) :: (g, .cells #[v] 129 (0, 0)) :: F) u51 hi1 hz1 hs hb rfl (by omega) hrow (hO2.perm List.perm_middle.symm) hU2 (fun q hq => .inr (hhs q hq)) (rd_row (n := 1) (c := 1) (xs := bytesV [UInt8.ofNat (n / 256 ^ i)]) (hO2.at_ 0 rfl) rfl (by omega) rfl) (bytesV_one _) (by rw [hlen]; unfold maxLen; omega) (by rw [hlen]; omega) ?_
    intro v3 w3 h3 hr3 hO3 hU3 hh3
    have hO3' : Owns w3 (h3 ++ ((g, .cells #[v] 129 (0, 0)) :: F)) := hO3.sub (List.Sublist.append (List.Sublist.refl _) (.cons _ (List.Sublist.refl _)))
    refine st_same ⟨hU3, hcell hO3'⟩ ?_
    simp (disch := first | assumption | omega) only [SX]
    have hv3 : v3.oneCell' = true := by
      obtain ⟨A, c, rfl, _⟩ := hr3.rd (F := []) (by rw [List.append_nil]; exact hO3.sub (List.sublist_append_left _ _))
      rfl
    have hP := hO3'.perm (List.perm_middle (a := (g, Obj.cells #[v] 129 (0, 0))) (l₁ := h3) (l₂ := F))
    refine st_storeB sz51 (by obtain ⟨A, c, rfl, _⟩ := hr3.rd (F := []) (by rw [List.append_nil]; exact hO3.sub (List.sublist_append_left _ _)); rfl) hU3 hP 0 rfl (by simp) (.inr (Nat.zero_le _)) (.inr hg) ?_
    intro w4 hU4 hO4
    have hO4 : Owns w4 ((g, .cells #[v3] 129 (0, 0)) :: (h3 ++ F)) := hO4
    refine st_keepT (fun _ => True) trivial ?_
    refine ⟨⟨i + 1, by omega, rfl, v3, h3, ?_, hO4.perm List.perm_middle.symm, hU4, fun q hq => (hh3 q hq).resolve_left (by simp), hg⟩, ?_⟩
    · rw [leB_succ, ← List.append_assoc, show (l ++ leB n i ++ [UInt8.ofNat (n / 256 ^ i)]).length = (l ++ leB n i).length + 1 by simp [Nat.add_assoc]]
      have : bytesV (l ++ leB n i) ++ bytesV [UInt8.ofNat (n / 256 ^ i)] = bytesV (l ++ leB n i ++ [UInt8.ofNat (n / 256 ^ i)]) := by simp [bytesV]
      rw [this] at hr3
      exact hr3
    · simp only [List.getD_cons_succ, List.getD_cons_zero, intOf]; omega
  · obtain rfl : i = k := by omega
    exact hW

theorem Byte_spec {W w : World} {F : List (Nat × Obj)} {g : Nat} {l : List UInt8} (n : Nat) (hl : l.length + 8 ≤ 140737488355000) (hn : n < 256) (h : WI W F g l w) :
    CallsR Try.prog 94 #[.pointer (some ⟨g, 0, none⟩), .int .u8 (n : Nat)] w fun r w' => WI W F g (l ++ leB n 1) w' := by
  apply enc_Writer_Byte_sound
  unfold enc_Writer_Byte_x
  simp only [PX, wrapU64, Nat.mod_eq_of_lt (show n < 18446744073709551616 by omega)]
  exact st_call (num_spec n 1 (by omega) (by omega) h) fun _ _ h => h
theorem Two_spec {W w : World} {F : List (Nat × Obj)} {g : Nat} {l : List UInt8} (n : Nat) (hl : l.length + 8 ≤ 140737488355000) (hn : n < 65536) (h : WI W F g l w) :
    CallsR Try.prog 83 #[.pointer (some ⟨g, 0, none⟩), .int .u16 (n : Nat)] w fun r w' => WI W F g (l ++ leB n 2) w' := by
  apply enc_Writer_Two_sound
  unfold enc_Writer_Two_x
  simp only [PX, wrapU64, Nat.mod_eq_of_lt (show n < 18446744073709551616 by omega)]
  exact st_call (num_spec n 2 (by omega) (by omega) h) fun _ _ h => h
theorem Four_spec {W w : World} {F : List (Nat × Obj)} {g : Nat} {l : List UInt8} (n : Nat) (hl : l.length + 8 ≤ 140737488355000) (hn : n < 4294967296) (h : WI W F g l w) :
    CallsR Try.prog 43 #[.pointer (some ⟨g, 0, none⟩), .int .u32 (n : Nat)] w fun r w' => WI W F g (l ++ leB n 4) w' := by
  apply enc_Writer_Four_sound
  unfold enc_Writer_Four_x
  simp only [PX, wrapU64, Nat.mod_eq_of_lt (show n < 18446744073709551616 by omega)]
  exact st_call (num_spec n 4 (by omega) (by omega) h) fun _ _ h => h
theorem Eight_spec {W w : World} {F : List (Nat × Obj)} {g : Nat} {l : List UInt8} (n : Nat) (hl : l.length + 8 ≤ 140737488355000) (h : WI W F g l w) :
    CallsR Try.prog 95 #[.pointer (some ⟨g, 0, none⟩), .int .u64 (n : Nat)] w fun r w' => WI W F g (l ++ leB n 8) w' := by
  apply enc_Writer_Eight_sound
  unfold enc_Writer_Eight_x
  exact st_call (num_spec n 8 (by omega) (by omega) h) fun _ _ h => h

/-- a text as it is laid -/
def textB (s : List UInt8) : List UInt8 := leB (min s.length 65535) 2 ++ s.take 65535
theorem Text_spec {W w : World} {F : List (Nat × Obj)} {g : Nat} {l : List UInt8} (s : List UInt8) (hl : l.length + 70000 ≤ 140737488355000) (h : WI W F g l w) :
    CallsR Try.prog 97 #[.pointer (some ⟨g, 0, none⟩), .string ⟨s.toArray⟩] w fun r w' => WI W F g (l ++ textB s) w' := by
  apply enc_Writer_Text_sound
  unfold enc_Writer_Text_x
  have rest : ∀ t : List UInt8, t.length ≤ 65535 → enc_Writer_Text_k1 (std Try.prog) (.pointer (some ⟨g, 0, none⟩)) (.string ⟨t.toArray⟩) w fun r w' => WI W F g (l ++ (leB t.length 2 ++ t)) w' := by
    intro t ht
    unfold enc_Writer_Text_k1
    simp only [PX, size_mk, wrapU64, Nat.mod_eq_of_lt (show t.length < 18446744073709551616 by omega)]
    refine st_call (num_spec t.length 2 (by omega) (by omega) h) ?_
    rintro _ w1 ⟨v, hh, hrow, hO, hU, hhs, hg⟩
    have hlen : (l ++ leB t.length 2).length = l.length + 2 := by rw [List.length_append, leB_len]
    have c0 : w1.cell? ⟨g, 0, none⟩ = some v := cell_at ((hO.sub (List.sublist_append_right _ _)).at_ 0 rfl)
    simp (disch := first | assumption | omega) only [PX, LX]
    obtain ⟨inf, hi1, hz1, hs, hb⟩ := inf5
    refine st_appendS (F := (g, .cells #[v] 129 (0, 0)) :: F) u51 hi1 hz1 hs hb rfl rfl u9 hrow hO hU (fun q hq => .inr (hhs q hq)) (by rw [hlen]; unfold maxLen; omega) (by rw [hlen]; omega) ?_
    intro v3 w3 h3 hr3 hO3 hU3 hh3
    have hP := hO3.perm (List.perm_middle (a := (g, Obj.cells #[v] 129 (0, 0))) (l₁ := h3) (l₂ := F))
    refine st_storeB sz51 (by obtain ⟨A, c, rfl, _⟩ := hr3.rd (F := []) (by rw [List.append_nil]; exact hO3.sub (List.sublist_append_left _ _)); rfl) hU3 hP 0 rfl (by simp) (.inr (Nat.zero_le _)) (.inr hg) ?_
    intro w4 hU4 hO4
    have hO4 : Owns w4 ((g, .cells #[v3] 129 (0, 0)) :: (h3 ++ F)) := hO4
    refine ⟨v3, h3, ?_, hO4.perm List.perm_middle.symm, hU4, fun q hq => (hh3 q hq).resolve_left (by simp), hg⟩
    rw [← List.append_assoc, show (l ++ leB t.length 2 ++ t).length = (l ++ leB t.length 2).length + t.length by simp [Nat.add_assoc]]
    have : bytesV (l ++ leB t.length 2) ++ bytesV t = bytesV (l ++ leB t.length 2 ++ t) := by simp [bytesV]
    rw [this] at hr3
    exact hr3
  simp only [NP, BX, PX, size_mk]
  refine ⟨fun hbig => ?_, fun hsm => ?_⟩
  · rw [step_run (run_strTo (i := 65535) u9 (by omega) (by omega))]
    have := rest (s.take 65535) (by simp; omega)
    unfold textB
    rw [Nat.min_eq_right (by omega)]
    rw [List.length_take, Nat.min_eq_left (by omega)] at this
    exact this
  · have := rest s (by omega)
    unfold textB
    rw [Nat.min_eq_left (by omega), List.take_of_length_le (by omega)]
    exact this

theorem Done_nil (w : World) : CallsR Try.prog 46 #[.pointer none] w fun r w' => r = .slice none 0 0 ∧ w' = w := by
  apply enc_Writer_Done_sound
  unfold enc_Writer_Done_x
  simp only [NP, BX]
  exact ⟨trivial, trivial⟩
theorem empty_row (w : World) : (sBuildSlice 51 0 []).run Try.prog w = .ok (.value (.slice (some ⟨w.heap.size, 0, none⟩) 0 0)) (w.alloc (.cells #[] 5)) := by kernel_rfl
/-- bytes in a row of their own -/
def NewB (w w' : World) (r : Value) (l : List UInt8) : Prop := ∃ h, RowH 5 1 r l.length (bytesV l) h ∧ Owns w' h ∧ Upd w w' [] ∧ ∀ p ∈ h, w.heap.size ≤ p.1
theorem Done_spec {W w : World} {F : List (Nat × Obj)} {g : Nat} {l : List UInt8} (hl : l.length ≤ 140737488355000) (h : WI W F g l w) :
    CallsR Try.prog 46 #[.pointer (some ⟨g, 0, none⟩)] w fun r w' => NewB w w' r l := by
  apply enc_Writer_Done_sound
  unfold enc_Writer_Done_x
  obtain ⟨v, hh, hrow, hO, hU, hhs, hg⟩ := h
  have c0 : w.cell? ⟨g, 0, none⟩ = some v := cell_at ((hO.sub (List.sublist_append_right _ _)).at_ 0 rfl)
  have hrd := hrow.rd hO
  simp only [NP, BX]
  refine st_newRow empty_row (Upd.refl w []) (Owns.nil w) ?_
  intro g2 w2 hU2 hO2 hg2
  have c0 : w2.cell? ⟨g, 0, none⟩ = some v := by rw [hU2.cell (lt_of_some ((hO.sub (List.sublist_append_right _ _)).at_ 0 rfl)) (by simp)]; exact c0
  simp (disch := first | assumption | omega) only [PX, LX]
  obtain ⟨inf, hi1, hz1, hs, hb⟩ := inf5
  refine st_append (h := [(g2, .cells #[] 5)]) (F := []) u51 hi1 hz1 hs hb rfl (by omega) (row_nil 5 g2) hO2 hU2 (fun q hq => by simp at hq; subst hq; exact .inr hg2) (hrd.mono hU2) (bytesV_one _) (by unfold maxLen; omega) (by omega) ?_
  intro v3 w3 h3 hr3 hO3 hU3 hh3
  refine ⟨h3, by simpa using hr3, by simpa using hO3, hU3, fun q hq => (hh3 q hq).resolve_left (by simp)⟩
end Go.Proofs.Ytplpjikcgheiiaa.Enc

/- Ported from another seat (enc/S2.lean). -/
namespace Go.Proofs.Ytplpjikcgheiiaa.Enc
open Go Go.Proofs.Ytplpjikcgheiiaa Xf Go.RowKit
set_option linter.unusedVariables false
set_option linter.unusedSimpArgs false
set_option maxRecDepth 100000

/-- a reader: block g, with the bytes l left, and the error e; its bytes stand in the blocks hb -/
def RI (W : World) (F : List (Nat × Obj)) (g : Nat) (hb : List (Nat × Obj)) (l : List UInt8) (e : Nat) (w : World) : Prop :=
  ∃ (v : Value), (∀ w', Owns w' hb → Rd w' 1 v l.length (bytesV l)) ∧ Owns w ((g, .cells #[v, .int .i64 (e : Nat)] 163 (0, 0)) :: (hb ++ F)) ∧ Upd W w [] ∧ W.heap.size ≤ g
theorem RI.mid {W w : World} {F : List (Nat × Obj)} {g e : Nat} {hb : List (Nat × Obj)} {l : List UInt8} (h : RI W F g hb l e w) : Upd W w [] := by obtain ⟨_, _, _, h, _⟩ := h; exact h
theorem RI.ext {W w w' : World} {F : List (Nat × Obj)} {g e : Nat} {hb : List (Nat × Obj)} {l : List UInt8} (h : RI W F g hb l e w) (hU : Upd w w' []) : RI W F g hb l e w' := by
  obtain ⟨v, h1, h2, h3, h4⟩ := h
  exact ⟨v, h1, h2.ext hU, h3.trans hU, h4⟩
theorem RI.push {W w w' : World} {F : List (Nat × Obj)} {g e : Nat} {hb : List (Nat × Obj)} {l : List UInt8} {p : Nat × Obj} (h : RI W F g hb l e w) (hU : Upd w w' []) (hp : w'.heap[p.1]? = some p.2) (hg : w.heap.size ≤ p.1) : RI W (p :: F) g hb l e w' := by
  obtain ⟨v, h1, h2, h3, h4⟩ := h
  refine ⟨v, h1, ?_, h3.trans hU, h4⟩
  have hO : Owns w' (p :: ((g, .cells #[v, .int .i64 (e : Nat)] 163 (0, 0)) :: (hb ++ F))) := by
    refine ⟨?_, fun q hq => ?_⟩
    · rw [List.map_cons]
      refine List.nodup_cons.2 ⟨fun hm => ?_, h2.1⟩
      obtain ⟨q, hq, he⟩ := List.mem_map.1 hm
      have := h2.lt hq
      omega
    · rcases List.mem_cons.1 hq with rfl | hq
      · exact hp
      · exact (h2.ext hU).2 q hq
  refine hO.perm ?_
  refine (List.Perm.swap _ _ _).trans (List.Perm.cons _ ?_)
  exact List.perm_middle.symm
theorem RI.pop {W w : World} {F : List (Nat × Obj)} {g e : Nat} {hb : List (Nat × Obj)} {l : List UInt8} {p : Nat × Obj} (h : RI W (p :: F) g hb l e w) : RI W F g hb l e w := by
  obtain ⟨v, h1, h2, h3, h4⟩ := h
  exact ⟨v, h1, h2.sub (.cons_cons _ (List.Sublist.append (List.Sublist.refl _) (.cons _ (List.Sublist.refl _)))), h3, h4⟩
/-- what is kept beside a reader -/
theorem RI.kept {W w : World} {F : List (Nat × Obj)} {g e : Nat} {hb : List (Nat × Obj)} {l : List UInt8} (h : RI W F g hb l e w) : Owns w F := by
  obtain ⟨v, h1, h2, h3, h4⟩ := h
  exact h2.sub (.cons _ (List.sublist_append_right _ _))
theorem WI.kept {W w : World} {F : List (Nat × Obj)} {g : Nat} {l : List UInt8} (h : WI W F g l w) : Owns w F := by
  obtain ⟨v, hb, h1, h2, h3, h4⟩ := h
  exact h2.sub (.trans (.cons _ (List.Sublist.refl _)) (List.sublist_append_right _ _))

theorem Read_spec (W : World) (v : Value) (l : List UInt8) (hl : l.length ≤ 140737488355000) (hr : Rd W 1 v l.length (bytesV l)) :
    CallsR Try.prog 77 #[v] W fun r w' => ∃ g hb, r = .pointer (some ⟨g, 0, none⟩) ∧ RI W [] g hb l 0 w' ∧ ∀ p ∈ hb, W.heap.size ≤ p.1 := by
  apply enc_Read_sound
  unfold enc_Read_x
  refine st_newRow empty_row (Upd.refl W []) (Owns.nil W) ?_
  intro g2 w2 hU2 hO2 hg2
  obtain ⟨inf, hi1, hz1, hs, hb⟩ := inf5
  refine st_append (h := [(g2, .cells #[] 5)]) (F := []) u51 hi1 hz1 hs hb rfl (by omega) (row_nil 5 g2) hO2 hU2 (fun q hq => by simp at hq; subst hq; exact .inr hg2) (hr.mono hU2) (bytesV_one _) (by unfold maxLen; omega) (by omega) ?_
  intro v3 w3 h3 hr3 hO3 hU3 hh3
  have hr3 : RowH 5 1 v3 l.length (bytesV l) h3 := by simpa using hr3
  have hrd := hr3.rd hO3
  obtain ⟨A, c, rfl, _⟩ := hrd
  rw [step_run (show (sBuild 127 [(0, .slice A l.length c)]).run Try.prog w3 = .ok (.value (.agg #[.slice A l.length c])) w3 by kernel_rfl)]
  rw [step_run (show (sBuild 163 [(0, .agg #[.slice A l.length c])]).run Try.prog w3 = .ok (.value (.agg #[.slice A l.length c, .int .i64 0])) w3 by kernel_rfl)]
  refine st_box hU3 hO3 ?_
  intro g w4 hU4 hO4 hg
  exact ⟨g, h3, rfl, ⟨.slice A l.length c, fun w' hO => hr3.rd (F := []) (by rw [List.append_nil]; exact hO), hO4, hU4, hg⟩, fun q hq => (hh3 q hq).resolve_left (by simp)⟩

/-- what is taken off: the bytes, what is left, the error -/
def takeR (l : List UInt8) (e n : Nat) : List UInt8 × List UInt8 × Nat := if e ≠ 0 then ([], l, e) else if l.length < n then ([], l, 4) else (l.take n, l.drop n, 0)

theorem take_nil (a : Value) (w : World) : CallsR Try.prog 101 #[.pointer none, a] w fun r w' => r = .slice none 0 0 ∧ w' = w := by
  apply enc_Reader_take_sound
  unfold enc_Reader_take_x
  simp only [NP, BX]
  exact ⟨trivial, trivial⟩
theorem take_spec {W w : World} {F : List (Nat × Obj)} {g e : Nat} {hb : List (Nat × Obj)} {l : List UInt8} (n : Nat) (h : RI W F g hb l e w) :
    CallsR Try.prog 101 #[.pointer (some ⟨g, 0, none⟩), .int .i64 (n : Nat)] w fun r w' => RI W F g hb (takeR l e n).2.1 (takeR l e n).2.2 w' ∧ Rd w' 1 r (takeR l e n).1.length (bytesV (takeR l e n).1) := by
  apply enc_Reader_take_sound
  unfold enc_Reader_take_x
  obtain ⟨v, h1, h2, h3, h4⟩ := h
  have hOb := h2.sub (h' := hb) (.cons _ (List.sublist_append_left _ _))
  have hrd := h1 w hOb
  have hrd' := hrd
  obtain ⟨A, c, rfl, hc, _⟩ := hrd'
  have c0 : w.cell? ⟨g, 0, none⟩ = some (.slice A l.length c) := cell_at (h2.at_ 0 rfl)
  have c1 : w.cell? ⟨g, 1, none⟩ = some (.int .i64 (e : Nat)) := cell_at (h2.at_ 0 rfl)
  simp (disch := first | assumption | omega) only [NP, PX, BX, LX, add_mk, Nat.zero_add]
  refine ⟨fun he => ?_, fun he => ⟨fun hlt => ?_, fun hge => ?_⟩⟩
  · have : takeR l e n = ([], l, e) := by unfold takeR; rw [if_pos (by omega)]
    rw [this]
    exact ⟨⟨_, h1, h2, h3, h4⟩, Rd.nil_ _ _⟩
  · have : takeR l e n = ([], l, 4) := by unfold takeR; rw [if_neg (by omega), if_pos (by omega)]
    rw [this]
    refine st_storeB sz24 rfl h3 h2 0 rfl (by simp) (.inr (Nat.zero_le _)) (.inr h4) ?_
    intro w1 hU1 hO1
    exact ⟨⟨_, h1, hO1, hU1, h4⟩, Rd.nil_ _ _⟩
  · have : takeR l e n = (l.take n, l.drop n, 0) := by unfold takeR; rw [if_neg (by omega), if_neg (by omega)]
    rw [this]
    rw [step_run (run_sliceTo (i := (n : Int)) u51 sz5 (by omega) (by omega))]
    simp (disch := first | assumption | omega) only [NP, PX, BX, LX, add_mk, Nat.zero_add]
    rw [step_run (run_sliceFrom (i := (n : Int)) u51 sz5 (by omega) (by omega) hc)]
    refine st_storeB sz51 rfl h3 h2 0 rfl (by simp) (.inr (Nat.zero_le _)) (.inr h4) ?_
    intro w1 hU1 hO1
    have e0 : e = 0 := by omega
    subst e0
    have hOb1 := hO1.sub (h' := hb) (.cons _ (List.sublist_append_left _ _))
    have hn : n ≤ l.length := by omega
    simp only [show ((n : Nat) : Int).toNat = n by omega] at hO1 ⊢
    have bt : (bytesV l).take (n * 1) = bytesV (l.take n) := by rw [Nat.mul_one]; simp [bytesV, List.map_take]
    have bd : (bytesV l).drop (n * 1) = bytesV (l.drop n) := by rw [Nat.mul_one]; simp [bytesV, List.map_drop]
    refine ⟨⟨_, fun w' hO => ?_, hO1, hU1, h4⟩, ?_⟩
    · have := (h1 w' hO).drop (i := n) hn
      rw [bd] at this
      rw [List.length_drop]
      exact this
    · have := (h1 w1 hOb1).take (i := n) hn
      rw [bt] at this
      rw [List.length_take, Nat.min_eq_left hn]
      exact this

theorem rnum_nil (a : Value) (w : World) : CallsR Try.prog 90 #[.pointer none, a] w fun r w' => r = .int .u64 0 ∧ w' = w := by
  apply enc_Reader_num_sound
  unfold enc_Reader_num_x
  refine st_call (take_nil a w) ?_
  rintro _ w1 ⟨rfl, rfl⟩
  simp only [PX]
  refine st_loop (fun vs w' => vs.getD 2 undef = .int .u64 0 ∧ vs.getD 3 undef = .int .i64 0 ∧ w' = w1) (fun _ _ => 0) ⟨rfl, rfl, rfl⟩ ?_
  rintro dv vs w2 - ⟨e2, e3, rfl⟩
  simp (disch := omega) only [e2, e3, PX, BX]
  refine ⟨fun h => absurd h (by decide), fun _ => ?_⟩
  unfold enc_Reader_num_k1
  exact ⟨rfl, rfl⟩

theorem takeR_len (l : List UInt8) (e n : Nat) : (takeR l e n).1.length ≤ n := by
  unfold takeR
  split
  · simp
  · split
    · simp
    · simp; omega
theorem rnum_spec {W w : World} {F : List (Nat × Obj)} {g e : Nat} {hb : List (Nat × Obj)} {l : List UInt8} (n : Nat) (hn : n ≤ 8) (h : RI W F g hb l e w) :
    CallsR Try.prog 90 #[.pointer (some ⟨g, 0, none⟩), .int .i64 (n : Nat)] w fun r w' => RI W F g hb (takeR l e n).2.1 (takeR l e n).2.2 w' ∧ r = .int .u64 (leVal (takeR l e n).1 : Nat) := by
  apply enc_Reader_num_sound
  unfold enc_Reader_num_x
  refine st_call (take_spec n h) ?_
  rintro v w1 ⟨hR, hrd⟩
  have hbn := takeR_len l e n
  generalize (takeR l e n).1 = bs at *
  obtain ⟨A, c, rfl, hc, _, hcell⟩ := hrd
  simp only [PX]
  refine st_loop (fun vs w' => ∃ i : Nat, i ≤ bs.length ∧ vs.getD 2 undef = .int .u64 (leVal (bs.take i) : Nat) ∧ vs.getD 3 undef = .int .i64 i ∧ w' = w1) (fun vs _ => bs.length - (intOf (vs.getD 3 undef)).toNat) ⟨0, by omega, rfl, rfl, rfl⟩ ?_
  rintro dv vs w2 - ⟨i, hi, e2, e3, rfl⟩
  simp (disch := omega) only [e2, e3, PX, BX]
  refine ⟨fun hlt => ?_, fun hge => ?_⟩
  · have hlt' : i < bs.length := by omega
    obtain ⟨a, rfl, hx⟩ := hcell i (.int .u8 (bs[i].toNat : Nat)) (by simp [bytesV, hlt'])
    have hb8 := UInt8.toNat_lt bs[i]
    have hp : bs[i].toNat * 256 ^ i < 18446744073709551616 := by
      have h1 : 256 ^ i ≤ 256 ^ 7 := Nat.pow_le_pow_right (by omega) (by omega)
      have h2 : bs[i].toNat * 256 ^ i ≤ 255 * 256 ^ 7 := Nat.mul_le_mul (by omega) h1
      have h3 : (255 * 256 ^ 7 : Nat) < 18446744073709551616 := by decide
      omega
    have hsum : leVal (bs.take (i + 1)) < 18446744073709551616 := by
      have h1 := leVal_lt (bs.take (i + 1))
      have h2 : (bs.take (i + 1)).length ≤ 8 := by simp; omega
      have h3 : 256 ^ (bs.take (i + 1)).length ≤ 256 ^ 8 := Nat.pow_le_pow_right (by omega) h2
      have h4 : (256 ^ 8 : Nat) = 18446744073709551616 := by decide
      omega
    have hsn : leVal (bs.take (i + 1)) = leVal (bs.take i) + bs[i].toNat * 256 ^ i := by
      rw [List.take_succ_eq_append_getElem hlt', leVal_snoc, List.length_take, Nat.min_eq_left (by omega)]
    simp (disch := first | assumption | omega) only [PX, LX, wrapU64, w64]
    rw [Nat.mod_eq_of_lt (show bs[i].toNat < 18446744073709551616 by omega), shlU _ i (by omega), wrapU64, Nat.mod_eq_of_lt hp, ← Int.natCast_add, ← hsn, wrapU64, Nat.mod_eq_of_lt hsum]
    refine ⟨⟨i + 1, by omega, rfl, rfl, trivial⟩, ?_⟩
    simp only [List.getD_cons_succ, List.getD_cons_zero, intOf]; omega
  · obtain rfl : i = bs.length := by omega
    unfold enc_Reader_num_k1
    rw [List.take_length] at e2 ⊢
    exact ⟨hR, rfl⟩

theorem rByte_spec {W w : World} {F : List (Nat × Obj)} {g e : Nat} {hb : List (Nat × Obj)} {l : List UInt8} (h : RI W F g hb l e w) :
    CallsR Try.prog 102 #[.pointer (some ⟨g, 0, none⟩)] w fun r w' => RI W F g hb (takeR l e 1).2.1 (takeR l e 1).2.2 w' ∧ r = .int .u8 (leVal (takeR l e 1).1 : Nat) := by
  apply enc_Reader_Byte_sound
  unfold enc_Reader_Byte_x
  refine st_call (rnum_spec 1 (by omega) h) ?_
  rintro _ w1 ⟨hR, rfl⟩
  have h1 := leVal_lt (takeR l e 1).1
  have h2 := Nat.pow_le_pow_right (show 0 < 256 by omega) (takeR_len l e 1)
  simp only [PX, wrapU8]
  rw [Nat.mod_eq_of_lt (by omega)]
  exact ⟨hR, rfl⟩
theorem rTwo_spec {W w : World} {F : List (Nat × Obj)} {g e : Nat} {hb : List (Nat × Obj)} {l : List UInt8} (h : RI W F g hb l e w) :
    CallsR Try.prog 79 #[.pointer (some ⟨g, 0, none⟩)] w fun r w' => RI W F g hb (takeR l e 2).2.1 (takeR l e 2).2.2 w' ∧ r = .int .u16 (leVal (takeR l e 2).1 : Nat) := by
  apply enc_Reader_Two_sound
  unfold enc_Reader_Two_x
  refine st_call (rnum_spec 2 (by omega) h) ?_
  rintro _ w1 ⟨hR, rfl⟩
  have h1 := leVal_lt (takeR l e 2).1
  have h2 := Nat.pow_le_pow_right (show 0 < 256 by omega) (takeR_len l e 2)
  simp only [PX, wrapU16]
  rw [Nat.mod_eq_of_lt (by omega)]
  exact ⟨hR, rfl⟩
theorem rFour_spec {W w : World} {F : List (Nat × Obj)} {g e : Nat} {hb : List (Nat × Obj)} {l : List UInt8} (h : RI W F g hb l e w) :
    CallsR Try.prog 78 #[.pointer (some ⟨g, 0, none⟩)] w fun r w' => RI W F g hb (takeR l e 4).2.1 (takeR l e 4).2.2 w' ∧ r = .int .u32 (leVal (takeR l e 4).1 : Nat) := by
  apply enc_Reader_Four_sound
  unfold enc_Reader_Four_x
  refine st_call (rnum_spec 4 (by omega) h) ?_
  rintro _ w1 ⟨hR, rfl⟩
  have h1 := leVal_lt (takeR l e 4).1
  have h2 := Nat.pow_le_pow_right (show 0 < 256 by omega) (takeR_len l e 4)
  simp only [PX, wrapU32]
  rw [Nat.mod_eq_of_lt (by omega)]
  exact ⟨hR, rfl⟩
theorem rEight_spec {W w : World} {F : List (Nat × Obj)} {g e : Nat} {hb : List (Nat × Obj)} {l : List UInt8} (h : RI W F g hb l e w) :
    CallsR Try.prog 103 #[.pointer (some ⟨g, 0, none⟩)] w fun r w' => RI W F g hb (takeR l e 8).2.1 (takeR l e 8).2.2 w' ∧ r = .int .u64 (leVal (takeR l e 8).1 : Nat) := by
  apply enc_Reader_Eight_sound
  unfold enc_Reader_Eight_x
  exact st_call (rnum_spec 8 (by omega) h) fun _ _ h => h

/-- a text that is taken off: the text, what is left, the error -/
def textR (l : List UInt8) (e : Nat) (most : Int) : List UInt8 × List UInt8 × Nat :=
  if e ≠ 0 then ([], l, e) else if l.length < 2 then ([], l, 4) else if max most 0 < (leVal (l.take 2) : Int) then ([], l, 3) else
  if (l.drop 2).length < leVal (l.take 2) then ([], l, 4) else ((l.drop 2).take (leVal (l.take 2)), (l.drop 2).drop (leVal (l.take 2)), 0)

theorem rText_nil (a : Value) (w : World) : CallsR Try.prog 105 #[.pointer none, a] w fun r w' => r = .string ⟨#[]⟩ ∧ w' = w := by
  apply enc_Reader_Text_sound
  unfold enc_Reader_Text_x
  simp only [NP, BX]
  exact ⟨trivial, trivial⟩
theorem rText_spec {W w : World} {F : List (Nat × Obj)} {g e : Nat} {hb : List (Nat × Obj)} {l : List UInt8} (most : Int) (h : RI W F g hb l e w) :
    CallsR Try.prog 105 #[.pointer (some ⟨g, 0, none⟩), .int .i64 most] w fun r w' => RI W F g hb (textR l e most).2.1 (textR l e most).2.2 w' ∧ r = .string ⟨(textR l e most).1.toArray⟩ := by
  apply enc_Reader_Text_sound
  unfold enc_Reader_Text_x
  have h0 := h
  obtain ⟨v, h1, h2, h3, h4⟩ := h0
  have hOb := h2.sub (h' := hb) (.cons _ (List.sublist_append_left _ _))
  have hrd := h1 w hOb
  obtain ⟨A, c, rfl, hc, _⟩ := hrd
  have c0 : w.cell? ⟨g, 0, none⟩ = some (.slice A l.length c) := cell_at (h2.at_ 0 rfl)
  have c1 : w.cell? ⟨g, 1, none⟩ = some (.int .i64 (e : Nat)) := cell_at (h2.at_ 0 rfl)
  simp (disch := first | assumption | omega) only [NP, PX, BX, LX, add_mk, Nat.zero_add]
  refine ⟨fun he => ?_, fun he => ?_⟩
  · have : textR l e most = ([], l, e) := by unfold textR; rw [if_pos (by omega)]
    rw [this]
    exact ⟨h, rfl⟩
  have e0 : e = 0 := by omega
  subst e0
  refine st_call (rnum_spec 2 (by omega) h) ?_
  rintro _ w1 ⟨hR, rfl⟩
  -- the end: the bytes are taken off, or all stays
  have fin : ∀ (w2 : World) (l1 : List UInt8) (e1 n : Nat), RI W F g hb l1 e1 w2 → textR l 0 most = (if (takeR l1 e1 n).2.2 ≠ 0 then ([], l, (takeR l1 e1 n).2.2) else takeR l1 e1 n) →
      enc_Reader_Text_k1 (std Try.prog) (.pointer (some ⟨g, 0, none⟩)) (.slice A l.length c) (.int .i64 (n : Nat)) w2 fun r w' => RI W F g hb (textR l 0 most).2.1 (textR l 0 most).2.2 w' ∧ r = .string ⟨(textR l 0 most).1.toArray⟩ := by
    intro w2 l1 e1 n hR2 hT
    unfold enc_Reader_Text_k1
    refine st_call (take_spec n hR2) ?_
    rintro u w3 ⟨hR3, hrd3⟩
    rw [step_run (run_str u51 u5 u9 hrd3)]
    have hR3' := hR3
    obtain ⟨v3, k1, k2, k3, k4⟩ := hR3'
    have d1 : w3.cell? ⟨g, 1, none⟩ = some (.int .i64 ((takeR l1 e1 n).2.2 : Nat)) := cell_at (k2.at_ 0 rfl)
    simp (disch := first | assumption | omega) only [NP, PX, BX, LX, add_mk, Nat.zero_add]
    rw [hT]
    refine ⟨fun he => ?_, fun he => ?_⟩
    · rw [if_pos (by omega)]
      refine st_storeB sz51 rfl k3 k2 0 rfl (by simp) (.inr (Nat.zero_le _)) (.inr h4) ?_
      intro w4 hU4 hO4
      exact ⟨⟨_, h1, hO4, hU4, h4⟩, rfl⟩
    · rw [if_neg (by omega)]
      exact ⟨hR3, rfl⟩
  have hbn := takeR_len l 0 2
  have hlt := leVal_lt (takeR l 0 2).1
  have hpow := Nat.pow_le_pow_right (show 0 < 256 by omega) hbn
  have hR' := hR
  obtain ⟨v1, k1, k2, k3, k4⟩ := hR'
  have d1 : w1.cell? ⟨g, 1, none⟩ = some (.int .i64 ((takeR l 0 2).2.2 : Nat)) := cell_at (k2.at_ 0 rfl)
  simp (disch := first | assumption | omega) only [NP, PX, BX, LX, add_mk, Nat.zero_add, w64]
  by_cases hl2 : l.length < 2
  · have ht : takeR l 0 2 = ([], l, 4) := by unfold takeR; rw [if_neg (by omega), if_pos hl2]
    rw [ht] at hR ⊢
    refine ⟨fun h => absurd h (by show ¬ ((4 : Nat) : Int) = 0; decide), fun _ => ?_⟩
    refine fin w1 l 4 0 hR ?_
    unfold textR takeR
    rw [if_neg (by omega), if_pos hl2]
    rfl
  have ht : takeR l 0 2 = (l.take 2, l.drop 2, 0) := by unfold takeR; rw [if_neg (by omega), if_neg hl2]
  rw [ht] at hR k2 ⊢
  simp only at hR k2 ⊢
  refine ⟨fun _ => ⟨fun hm => ?_, fun hm => ?_⟩, fun h => absurd rfl h⟩
  · refine st_storeB sz24 rfl k3 k2 0 rfl (by simp) (.inr (Nat.zero_le _)) (.inr h4) ?_
    intro w2 hU2 hO2
    have hR2 : RI W F g hb (l.drop 2) 3 w2 := ⟨v1, by rw [ht] at k1; exact k1, hO2, hU2, h4⟩
    refine fin w2 (l.drop 2) 3 _ hR2 ?_
    unfold textR takeR
    rw [if_neg (by omega), if_neg hl2, if_pos (by split at hm <;> omega)]
    rfl
  · refine fin w1 (l.drop 2) 0 _ hR ?_
    have hm' : ¬ max most 0 < (leVal (l.take 2) : Int) := by split at hm <;> omega
    have t2 : takeR (l.drop 2) 0 (leVal (l.take 2)) = if (l.drop 2).length < leVal (l.take 2) then ([], l.drop 2, 4) else ((l.drop 2).take (leVal (l.take 2)), (l.drop 2).drop (leVal (l.take 2)), 0) := by unfold takeR; rw [if_neg (by omega)]
    unfold textR
    rw [if_neg (by omega), if_neg hl2, if_neg hm', t2]
    by_cases h5 : (l.drop 2).length < leVal (l.take 2)
    · simp only [if_pos h5]; rfl
    · simp only [if_neg h5]; rfl

theorem rErr_nil (w : World) : CallsR Try.prog 80 #[.pointer none] w fun r w' => r = .int .i64 1 ∧ w' = w := by
  apply enc_Reader_Err_sound
  unfold enc_Reader_Err_x
  simp only [NP, BX]
  exact ⟨trivial, trivial⟩
theorem rErr_spec {W w : World} {F : List (Nat × Obj)} {g e : Nat} {hb : List (Nat × Obj)} {l : List UInt8} (h : RI W F g hb l e w) :
    CallsR Try.prog 80 #[.pointer (some ⟨g, 0, none⟩)] w fun r w' => r = .int .i64 (e : Nat) ∧ w' = w := by
  apply enc_Reader_Err_sound
  unfold enc_Reader_Err_x
  obtain ⟨v, h1, h2, h3, h4⟩ := h
  have c1 : w.cell? ⟨g, 1, none⟩ = some (.int .i64 (e : Nat)) := cell_at (h2.at_ 0 rfl)
  simp (disch := first | assumption | omega) only [NP, PX, BX, LX, add_mk, Nat.zero_add]
  exact ⟨trivial, trivial⟩
def endR (l : List UInt8) (e : Nat) : Nat := if e = 0 ∧ l ≠ [] then 5 else e
theorem rEnd_nil (w : World) : CallsR Try.prog 106 #[.pointer none] w fun r w' => r = .int .i64 1 ∧ w' = w := by
  apply enc_Reader_End_sound
  unfold enc_Reader_End_x enc_Reader_End_k1
  refine st_call (rErr_nil w) ?_
  rintro _ w1 ⟨rfl, rfl⟩
  simp only [PX, BX]
  exact ⟨fun h => absurd h (by decide), fun _ => ⟨trivial, trivial⟩⟩
theorem rEnd_spec {W w : World} {F : List (Nat × Obj)} {g e : Nat} {hb : List (Nat × Obj)} {l : List UInt8} (h : RI W F g hb l e w) :
    CallsR Try.prog 106 #[.pointer (some ⟨g, 0, none⟩)] w fun r w' => r = .int .i64 (endR l e : Nat) ∧ w' = w := by
  apply enc_Reader_End_sound
  unfold enc_Reader_End_x enc_Reader_End_k1
  refine st_call (rErr_spec h) ?_
  rintro _ w1 ⟨rfl, rfl⟩
  obtain ⟨v, h1, h2, h3, h4⟩ := h
  obtain ⟨A, c, rfl, hc, _⟩ := h1 w1 (h2.sub (h' := hb) (.cons _ (List.sublist_append_left _ _)))
  have c0 : w1.cell? ⟨g, 0, none⟩ = some (.slice A l.length c) := cell_at (h2.at_ 0 rfl)
  simp (disch := first | assumption | omega) only [NP, PX, BX, LX, add_mk, Nat.zero_add]
  unfold endR
  refine ⟨fun he => ⟨fun hl => ?_, fun hl => ?_⟩, fun he => ?_⟩
  · rw [if_pos ⟨by omega, by intro h; subst h; simp at hl⟩]; exact ⟨rfl, trivial⟩
  · rw [if_neg (by rintro ⟨_, h⟩; exact h (List.eq_nil_of_length_eq_zero (by omega)))]; exact ⟨rfl, trivial⟩
  · rw [if_neg (by rintro ⟨h, _⟩; omega)]; exact ⟨rfl, trivial⟩
end Go.Proofs.Ytplpjikcgheiiaa.Enc

/- Ported from another seat (enc/S5.lean). -/
namespace Go.Proofs.Ytplpjikcgheiiaa.Enc
open Go Go.Proofs.Ytplpjikcgheiiaa Xf Go.RowKit
set_option linter.unusedVariables false
set_option linter.unusedSimpArgs false
set_option maxRecDepth 100000
theorem leB_mod (n k : Nat) : leB (n % 256 ^ k) k = leB n k := by
  unfold leB
  apply List.map_congr_left
  intro i hi
  have hi := List.mem_range.1 hi
  obtain ⟨d, rfl⟩ : ∃ d, k = i + (d + 1) := ⟨k - i - 1, by omega⟩
  apply UInt8.toNat_inj.1
  rw [ofNat_toNat8, ofNat_toNat8, Nat.pow_add, Nat.mod_mul_right_div_self, Nat.pow_succ, Nat.mul_comm (256 ^ d), Nat.mod_mul_right_mod]

theorem Byte_nil (a : Int) (w : World) : CallsR Try.prog 94 #[.pointer none, .int .u8 a] w fun r w' => w' = w := by
  apply enc_Writer_Byte_sound
  unfold enc_Writer_Byte_x
  simp only [PX]
  exact st_call (num_nil _ _ w) fun _ _ h => h
theorem Two_nil (a : Int) (w : World) : CallsR Try.prog 83 #[.pointer none, .int .u16 a] w fun r w' => w' = w := by
  apply enc_Writer_Two_sound
  unfold enc_Writer_Two_x
  simp only [PX]
  exact st_call (num_nil _ _ w) fun _ _ h => h
theorem Four_nil (a : Int) (w : World) : CallsR Try.prog 43 #[.pointer none, .int .u32 a] w fun r w' => w' = w := by
  apply enc_Writer_Four_sound
  unfold enc_Writer_Four_x
  simp only [PX]
  exact st_call (num_nil _ _ w) fun _ _ h => h
theorem Eight_nil (a : Int) (w : World) : CallsR Try.prog 95 #[.pointer none, .int .u64 a] w fun r w' => w' = w := by
  apply enc_Writer_Eight_sound
  unfold enc_Writer_Eight_x
  exact st_call (num_nil _ _ w) fun _ _ h => h
theorem Text_nil (s : ByteArray) (w : World) : CallsR Try.prog 97 #[.pointer none, .string s] w fun r w' => w' = w := by
  apply enc_Writer_Text_sound
  unfold enc_Writer_Text_x
  simp only [NP, BX]
theorem refNum_spec (w : World) (n k : Nat) (hk : k ≤ 8) (hn : n < 18446744073709551616) : CallsR Try.prog 61 #[.int .u64 (n : Nat), .int .i64 (k : Nat)] w fun r w' => r = .string ⟨(leB n k).toArray⟩ ∧ Upd w w' [] := by
  apply flotillaref01_Num_sound
  unfold flotillaref01_Num_x
  refine st_loop (fun vs w' => ∃ i : Nat, i ≤ k ∧ vs.getD 0 undef = .string ⟨(leB n i).toArray⟩ ∧ vs.getD 1 undef = .int .u64 (n / 256 ^ i : Nat) ∧ vs.getD 2 undef = .int .i64 i ∧ Upd w w' []) (fun vs _ => k - (intOf (vs.getD 2 undef)).toNat) ⟨0, by omega, rfl, by simp, rfl, Upd.refl w []⟩ ?_
  rintro dv vs w1 - ⟨i, hi, e0, e1, e2, hU1⟩
  simp (disch := omega) only [e0, e1, e2, PX, BX]
  refine ⟨fun hlt => ?_, fun hge => ?_⟩
  · rw [show Int.tmod ((n / 256 ^ i : Nat) : Int) 256 = ((n / 256 ^ i % 256 : Nat) : Int) from tmod_nat _ 256, wrapU8, show n / 256 ^ i % 256 % 256 = (UInt8.ofNat (n / 256 ^ i)).toNat by simp]
    refine st_newRow (one_byte _) hU1 (Owns.nil w1) ?_
    intro g w2 hU2 hO2 hg
    rw [step_run (run_str (l := [UInt8.ofNat (n / 256 ^ i)]) u51 u5 u9 (rd_row (n := 1) (c := 1) (hO2.at_ 0 rfl) rfl (by omega) rfl))]
    have hlen : (⟨(leB n i).toArray⟩ : ByteArray).size + (⟨[UInt8.ofNat (n / 256 ^ i)].toArray⟩ : ByteArray).size ≤ 9223372036854775807 := by rw [size_mk, size_mk, leB_len]; simp; omega
    rw [px_sadd hlen, mk_append, ← leB_succ]
    rw [show Int.tdiv ((n / 256 ^ i : Nat) : Int) 256 = ((n / 256 ^ i / 256 : Nat) : Int) from tdiv_nat _ 256, wrapU64, Nat.div_div_eq_div_mul, ← Nat.pow_succ, Nat.mod_eq_of_lt (Nat.lt_of_le_of_lt (Nat.div_le_self _ _) hn), w64 (by omega) (by omega)]
    refine ⟨⟨i + 1, by omega, rfl, rfl, rfl, hU2⟩, ?_⟩
    simp only [List.getD_cons_succ, List.getD_cons_zero, intOf]; omega
  · obtain rfl : i = k := by omega
    unfold flotillaref01_Num_k1
    exact ⟨rfl, hU1⟩
theorem refText_spec (w : World) (s : List UInt8) : CallsR Try.prog 73 #[.string ⟨s.toArray⟩] w fun r w' => r = .string ⟨(textB s).toArray⟩ ∧ Upd w w' [] := by
  apply flotillaref01_Text_sound
  unfold flotillaref01_Text_x
  have rest : ∀ t : List UInt8, t.length ≤ 65535 → flotillaref01_Text_k1 (std Try.prog) (.string ⟨t.toArray⟩) w fun r w' => r = .string ⟨(leB t.length 2 ++ t).toArray⟩ ∧ Upd w w' [] := by
    intro t ht
    unfold flotillaref01_Text_k1
    simp only [PX, size_mk, wrapU64, Nat.mod_eq_of_lt (show t.length < 18446744073709551616 by omega)]
    refine st_call (refNum_spec w t.length 2 (by omega) (by omega)) ?_
    rintro _ w1 ⟨rfl, hU1⟩
    have hlen : (⟨(leB t.length 2).toArray⟩ : ByteArray).size + (⟨t.toArray⟩ : ByteArray).size ≤ 9223372036854775807 := by rw [size_mk, size_mk, leB_len]; omega
    rw [px_sadd hlen, mk_append]
    exact ⟨rfl, hU1⟩
  simp only [BX, PX, size_mk]
  refine ⟨fun hbig => ?_, fun hsm => ?_⟩
  · rw [step_run (run_strTo (i := 65535) u9 (by omega) (by omega))]
    have := rest (s.take 65535) (by simp; omega)
    unfold textB
    rw [Nat.min_eq_right (by omega)]
    rw [List.length_take, Nat.min_eq_left (by omega)] at this
    exact this
  · have := rest s (by omega)
    unfold textB
    rw [Nat.min_eq_left (by omega), List.take_of_length_le (by omega)]
    exact this

theorem NewB.rd {w w' : World} {r : Value} {l : List UInt8} (h : NewB w w' r l) : Rd w' 1 r l.length (bytesV l) := by
  obtain ⟨hh, h1, h2, _⟩ := h
  exact h1.rd (F := []) (by rw [List.append_nil]; exact h2)
theorem NewB.upd {w w' : World} {r : Value} {l : List UInt8} (h : NewB w w' r l) : Upd w w' [] := by
  obtain ⟨_, _, _, h, _⟩ := h; exact h

theorem owns_old {W w : World} {H : List (Nat × Obj)} {g : Nat} {o : Obj} (hO : Owns w H) (hH : ∀ p ∈ H, W.heap.size ≤ p.1) (hg : g < W.heap.size) (ho : w.heap[g]? = some o) : Owns w ((g, o) :: H) := by
  refine ⟨?_, fun q hq => ?_⟩
  · rw [List.map_cons]
    refine List.nodup_cons.2 ⟨fun hm => ?_, hO.1⟩
    obtain ⟨q, hq, he⟩ := List.mem_map.1 hm
    have := hH q hq
    omega
  · rcases List.mem_cons.1 hq with rfl | hq
    · exact ho
    · exact hO.2 q hq
theorem owns_app {w w' : World} {H h : List (Nat × Obj)} (hO : Owns w H) (hU : Upd w w' []) (hOh : Owns w' h) (hh : ∀ p ∈ h, w.heap.size ≤ p.1) : Owns w' (h ++ H) := by
  refine ⟨?_, fun q hq => ?_⟩
  · rw [List.map_append]
    refine List.nodup_append.2 ⟨hOh.1, hO.1, fun a ha b hb he => ?_⟩
    obtain ⟨p, hp, rfl⟩ := List.mem_map.1 ha
    obtain ⟨q, hq, rfl⟩ := List.mem_map.1 hb
    have h1 := hh p hp
    have h2 := hO.lt hq
    omega
  · rcases List.mem_append.1 hq with hq | hq
    · exact hOh.2 q hq
    · exact (hO.ext hU).2 q hq

theorem takeR_one {l : List UInt8} {i : Nat} (hi : i < l.length) : takeR (l.drop i) 0 1 = ([l[i]], l.drop (i + 1), 0) := by
  unfold takeR
  rw [if_neg (by omega), if_neg (by simp; omega), List.drop_eq_getElem_cons hi]
  rfl
theorem textB_len (s : List UInt8) : (textB s).length = 2 + min s.length 65535 := by
  unfold textB
  rw [List.length_append, leB_len, List.length_take, Nat.min_comm]

theorem RI.base {W W1 w : World} {F hb : List (Nat × Obj)} {g e : Nat} {l : List UInt8} (h : RI W1 F g hb l e w) (hU : Upd W W1 []) : RI W F g hb l e w := by
  obtain ⟨v, h1, h2, h3, h4⟩ := h
  exact ⟨v, h1, h2, hU.trans h3, Nat.le_trans hU.size h4⟩

theorem takeR_leB (n k : Nat) (rest : List UInt8) : takeR (leB n k ++ rest) 0 k = (leB n k, rest, 0) := by
  unfold takeR
  rw [if_neg (by omega), if_neg (by rw [List.length_append, leB_len]; omega), List.take_append_of_le_length (by rw [leB_len]; exact Nat.le_refl _), List.take_of_length_le (by rw [leB_len]; exact Nat.le_refl _), List.drop_append, List.drop_of_length_le (by rw [leB_len]; exact Nat.le_refl _), leB_len, Nat.sub_self]
  rfl
theorem textB_parts (s rest : List UInt8) (hs : s.length ≤ 65535) : (textB s ++ rest).take 2 = leB s.length 2 ∧ (textB s ++ rest).drop 2 = s ++ rest := by
  have : textB s = leB s.length 2 ++ s := by unfold textB; rw [Nat.min_eq_left hs, List.take_of_length_le hs]
  rw [this, List.append_assoc]
  exact ⟨List.take_left' (leB_len _ _), List.drop_left' (leB_len _ _)⟩
theorem leVal_len {s : List UInt8} (hs : s.length ≤ 65535) : leVal (leB s.length 2) = s.length := by
  rw [leVal_leB]; exact Nat.mod_eq_of_lt (by omega)
theorem textR_back (s rest : List UInt8) (hs : s.length ≤ 65535) : textR (textB s ++ rest) 0 65535 = (s, rest, 0) := by
  obtain ⟨h1, h2⟩ := textB_parts s rest hs
  have hl := textB_len s
  unfold textR
  rw [if_neg (by omega), if_neg (by rw [List.length_append]; omega), h1, h2, leVal_len hs, if_neg (by omega), if_neg (by rw [List.length_append]; omega), List.take_left' rfl, List.drop_left' rfl]

end Go.Proofs.Ytplpjikcgheiiaa.Enc

/- Ported from another seat (enc/S7.lean). -/
namespace Go.Proofs.Ytplpjikcgheiiaa.Enc
open Go Go.Proofs.Ytplpjikcgheiiaa Xf Go.RowKit
set_option linter.unusedVariables false
set_option linter.unusedSimpArgs false
set_option maxRecDepth 100000

def qO (B : List UInt8) (at_ e : Nat) : Obj := .cells #[.string ⟨B.toArray⟩, .int .i64 (at_ : Nat), .int .i64 (e : Nat)] 155 (0, 0)
def qV (B : List UInt8) (at_ e : Nat) : Value := .agg #[.string ⟨B.toArray⟩, .int .i64 (at_ : Nat), .int .i64 (e : Nat)]
theorem ld155 {g : Nat} {B : List UInt8} {a e : Nat} {w : World} {K : Value → World → Prop} (h : w.heap[g]? = some (qO B a e)) : (std Try.prog).step (sLoad 155 (.pointer (some ⟨g, 0, none⟩))) w K = K (qV B a e) w :=
  step_run (run_sLoad (run_loadVarN (cs := [.string ⟨B.toArray⟩, .int .i64 (a : Nat), .int .i64 (e : Nat)]) ag155 (by rw [sz155]; rfl) (cells_read h)))
theorem ldr155 {g : Nat} {B : List UInt8} {a e : Nat} {w : World} {k : Value → Prop} (h : w.heap[g]? = some (qO B a e)) (hk : k (qV B a e)) : (std Try.prog).loadR 155 (.pointer (some ⟨g, 0, none⟩)) w k :=
  st_loadR (run_loadVarN (cs := [.string ⟨B.toArray⟩, .int .i64 (a : Nat), .int .i64 (e : Nat)]) ag155 (by rw [sz155]; rfl) (cells_read h)) hk
theorem st_q {w W : World} {h : List (Nat × Obj)} {K : Value → World → Prop} (hU : Upd W w []) (hO : Owns w h) (i : Nat) {g : Nat} {x y z : Value} {B : List UInt8} {a e : Nat} (hi : h[i]? = some (g, .cells #[x, y, z] 155 (0, 0))) (hg : W.heap.size ≤ g)
    (hk : ∀ w', Upd W w' [] → Owns w' (h.set i (g, qO B a e)) → w'.heap[g]? = some (qO B a e) → K undef w') : (std Try.prog).step (sStore 155 (.pointer (some ⟨g, 0, none⟩)) (qV B a e)) w K := by
  refine st_storeN (vs := [.string ⟨B.toArray⟩, .int .i64 (a : Nat), .int .i64 (e : Nat)]) (by rw [sz155]; rfl) hU hO i hi (by simp) (by intro u hu; simp at hu; rcases hu with rfl | rfl | rfl <;> rfl) (.inr hg) ?_
  intro w' hU' hO'
  have hlt := (List.getElem?_eq_some_iff.1 hi).1
  have hO' : Owns w' (h.set i (g, qO B a e)) := hO'
  exact hk w' hU' hO' (hO'.at_ i (List.getElem?_set_self hlt))

theorem refLeft_spec (w : World) (B : List UInt8) (a e : Nat) (ha : a ≤ B.length) (hB : B.length ≤ maxLen) : CallsR Try.prog 99 #[qV B a e] w fun r w' => r = .int .i64 ((B.drop a).length : Nat) ∧ Upd w w' [] := by
  apply flotillaref01_Left_sound
  unfold flotillaref01_Left_x
  refine st_box (Upd.refl w []) (Owns.nil w) ?_
  intro g w1 hU1 hO1 hg
  have c0 : w1.cell? ⟨g, 0, none⟩ = some (.string ⟨B.toArray⟩) := cell_at (hO1.at_ 0 rfl)
  have c1 : w1.cell? ⟨g, 1, none⟩ = some (.int .i64 (a : Nat)) := cell_at (hO1.at_ 0 rfl)
  unfold maxLen at hB
  simp (disch := first | assumption | omega) only [PX, LX, add_mk, Nat.zero_add, size_mk, w64]
  refine ⟨?_, hU1⟩
  rw [List.length_drop]
  congr 1; omega

/-- where the document's reader stands behind it, and its error -/
def takeQ (B : List UInt8) (a e n : Nat) : Nat × Nat := if e ≠ 0 then (a, e) else if (B.drop a).length < n then (a, 4) else (a + n, 0)
theorem takeQ_eq (B : List UInt8) (a e n : Nat) : (takeR (B.drop a) e n).2 = (B.drop (takeQ B a e n).1, (takeQ B a e n).2) := by
  unfold takeR takeQ
  split
  · rfl
  · split
    · rfl
    · simp [List.drop_drop]
theorem takeQ_le {B : List UInt8} {a e n : Nat} (ha : a ≤ B.length) : (takeQ B a e n).1 ≤ B.length := by
  unfold takeQ
  split
  · exact ha
  · split
    · exact ha
    · rename_i h; simp at h ⊢; omega

theorem refTake_spec (w : World) (B : List UInt8) (a e n : Nat) (ha : a ≤ B.length) (hB : B.length ≤ 140737488355328) (hn : n ≤ 8) :
    CallsR Try.prog 85 #[qV B a e, .int .i64 (n : Nat)] w fun r w' => r = .tuple #[qV B (takeQ B a e n).1 (takeQ B a e n).2, .int .u64 (leVal (takeR (B.drop a) e n).1 : Nat)] ∧ Upd w w' [] := by
  apply flotillaref01_Take_sound
  unfold flotillaref01_Take_x
  refine st_box (Upd.refl w []) (Owns.nil w) ?_
  intro g2 w1 hU1 hO1 hg2
  refine st_alloc ze155 hU1 hO1 ?_
  intro g4 w2 hU2 hO2 hg4
  have hO2 : Owns w2 [(g4, .cells #[.string ⟨#[]⟩, .int .i64 0, .int .i64 0] 155 (0, 0)), (g2, qO B a e)] := hO2
  have c2 : w2.cell? ⟨g2, 2, none⟩ = some (.int .i64 (e : Nat)) := cell_at (hO2.at_ 1 rfl)
  have tell : ∀ (w3 : World) (a' e' m : Nat), Upd w w3 [] → Owns w3 [(g4, .cells #[.string ⟨#[]⟩, .int .i64 0, .int .i64 0] 155 (0, 0)), (g2, qO B a' e')] → takeQ B a e n = (a', e') → leVal (takeR (B.drop a) e n).1 = m →
      (std Try.prog).step (sLoad 155 (.pointer (some ⟨g2, 0, none⟩))) w3 fun v u => (std Try.prog).step (sStore 155 (.pointer (some ⟨g4, 0, none⟩)) v) u fun _ u => (std Try.prog).loadR 155 (.pointer (some ⟨g4, 0, none⟩)) u fun r =>
        (Value.tuple #[r, .int .u64 (m : Nat)] = .tuple #[qV B (takeQ B a e n).1 (takeQ B a e n).2, .int .u64 (leVal (takeR (B.drop a) e n).1 : Nat)] ∧ Upd w u []) := by
    intro w3 a' e' m hU3 hO3 hq hm
    rw [ld155 (hO3.at_ 1 rfl)]
    refine st_q hU3 hO3 0 rfl hg4 ?_
    intro w4 hU4 hO4 h4
    refine ldr155 h4 ⟨?_, hU4⟩
    rw [hq, hm]
  simp (disch := first | assumption | omega) only [PX, BX, LX, add_mk, Nat.zero_add]
  refine ⟨fun he => ?_, fun he => ?_⟩
  · exact tell w2 a e 0 hU2 hO2 (by unfold takeQ; rw [if_pos (by omega)]) (by unfold takeR; rw [if_pos (by omega)]; rfl)
  have e0 : e = 0 := by omega
  subst e0
  rw [ld155 (hO2.at_ 1 rfl)]
  refine st_call (refLeft_spec w2 B a 0 ha (by unfold maxLen; omega)) ?_
  rintro _ w3 ⟨rfl, hU3⟩
  have hO3 := hO2.ext hU3
  have hU3 := hU2.trans hU3
  simp (disch := first | assumption | omega) only [PX, BX, LX, add_mk, Nat.zero_add]
  refine ⟨fun hlt => ?_, fun hge => ?_⟩
  · refine st_storeB sz24 rfl hU3 hO3 1 rfl (by simp) (.inr (Nat.zero_le _)) (.inr hg2) ?_
    intro w4 hU4 hO4
    exact tell w4 a 4 0 hU4 hO4 (by unfold takeQ; rw [if_neg (by omega), if_pos (by omega)]) (by unfold takeR; rw [if_neg (by omega), if_pos (by omega)]; rfl)
  have hge' : n ≤ (B.drop a).length := by omega
  have hdl : (B.drop a).length = B.length - a := List.length_drop
  have c0 : w3.cell? ⟨g2, 0, none⟩ = some (.string ⟨B.toArray⟩) := cell_at (hO3.at_ 1 rfl)
  have c1 : w3.cell? ⟨g2, 1, none⟩ = some (.int .i64 (a : Nat)) := cell_at (hO3.at_ 1 rfl)
  have hbl : ((B.drop a).take n).length = n := by rw [List.length_take]; omega
  rw [w64 (by omega) (by omega)]
  refine st_loop (fun vs w' => ∃ j : Nat, j ≤ n ∧ vs.getD 0 undef = .int .u64 (leVal (((B.drop a).take n).drop j) : Nat) ∧ vs.getD 1 undef = .int .i64 ((j : Int) - 1) ∧ w' = w3) (fun vs _ => (intOf (vs.getD 1 undef) + 1).toNat) ⟨n, by omega, by rw [List.drop_of_length_le (by omega)]; rfl, rfl, rfl⟩ ?_
  rintro dv vs w4 - ⟨j, hj, e0, e1, rfl⟩
  simp (disch := first | assumption | omega) only [e0, e1, PX, BX, LX, add_mk, Nat.zero_add]
  refine ⟨fun hjp => ?_, fun hjn => ?_⟩
  · obtain ⟨i, rfl⟩ : ∃ i, j = i + 1 := ⟨j - 1, by omega⟩
    have hib : i < ((B.drop a).take n).length := by omega
    have hx : (B.drop a).take n = (B.drop a).take n := rfl
    have hget : B[(((a : Nat) : Int) + (((i + 1 : Nat) : Int) - 1)).toNat]? = some (((B.drop a).take n)[i]) := by
      rw [show (((a : Nat) : Int) + (((i + 1 : Nat) : Int) - 1)).toNat = a + i by omega]
      rw [List.getElem_take, List.getElem_drop, List.getElem?_eq_getElem]
    have hval : leVal (((B.drop a).take n).drop i) = (((B.drop a).take n)[i]).toNat + 256 * leVal (((B.drop a).take n).drop (i + 1)) := by
      rw [List.drop_eq_getElem_cons hib]; rfl
    have hlt : leVal (((B.drop a).take n).drop i) < 18446744073709551616 := by
      have h1 := leVal_lt (((B.drop a).take n).drop i)
      have h2 : (((B.drop a).take n).drop i).length ≤ 8 := by rw [List.length_drop]; omega
      have h3 : 256 ^ (((B.drop a).take n).drop i).length ≤ 256 ^ 8 := Nat.pow_le_pow_right (by omega) h2
      have h4 : (256 ^ 8 : Nat) = 18446744073709551616 := by decide
      omega
    have hb8 := UInt8.toNat_lt (((B.drop a).take n)[i])
    rw [show (256 : Int) * ((leVal (((B.drop a).take n).drop (i + 1)) : Nat) : Int) = ((256 * leVal (((B.drop a).take n).drop (i + 1)) : Nat) : Int) by norm_cast, wrapU64, Nat.mod_eq_of_lt (by omega), w64 (by omega) (by omega)]
    rw [step_run (run_idxStr (i := ((a : Nat) : Int) + (((i + 1 : Nat) : Int) - 1)) (l := B) u9 (by omega) hget)]
    simp (disch := first | assumption | omega) only [PX, wrapU64]
    rw [Nat.mod_eq_of_lt (show (((B.drop a).take n)[i]).toNat < 18446744073709551616 by omega), ← Int.natCast_add, wrapU64, Nat.add_comm, ← hval, Nat.mod_eq_of_lt hlt, w64 (by omega) (by omega)]
    refine ⟨⟨i, by omega, rfl, by simp, trivial⟩, ?_⟩
    simp only [List.getD_cons_succ, List.getD_cons_zero, intOf]; omega
  · obtain rfl : j = 0 := by omega
    rw [List.drop_zero]
    unfold flotillaref01_Take_k1
    simp (disch := first | assumption | omega) only [PX, LX, add_mk, Nat.zero_add, w64]
    refine st_storeB sz3 rfl hU3 hO3 1 rfl (by simp) (.inr (Nat.zero_le _)) (.inr hg2) ?_
    intro w5 hU5 hO5
    have hO5 : Owns w5 [(g4, .cells #[.string ⟨#[]⟩, .int .i64 0, .int .i64 0] 155 (0, 0)), (g2, qO B (a + n) 0)] := hO5
    exact tell w5 (a + n) 0 _ hU5 hO5 (by unfold takeQ; rw [if_neg (by omega), if_neg (by omega)]) (by unfold takeR; rw [if_neg (by omega), if_neg (by omega)])

def textQ (B : List UInt8) (a e : Nat) (most : Int) : Nat × Nat :=
  if e ≠ 0 then (a, e) else if (B.drop a).length < 2 then (a, 4) else if max most 0 < (leVal ((B.drop a).take 2) : Int) then (a, 3) else
  if (B.drop (a + 2)).length < leVal ((B.drop a).take 2) then (a, 4) else (a + 2 + leVal ((B.drop a).take 2), 0)
theorem textQ_eq (B : List UInt8) (a e : Nat) (most : Int) : (textR (B.drop a) e most).2 = (B.drop (textQ B a e most).1, (textQ B a e most).2) := by
  unfold textR textQ
  rw [List.drop_drop]
  split
  · rfl
  · split
    · rfl
    · split
      · rfl
      · split
        · rfl
        · simp [List.drop_drop]
theorem textQ_le {B : List UInt8} {a e : Nat} {most : Int} (ha : a ≤ B.length) : (textQ B a e most).1 ≤ B.length := by
  unfold textQ
  split
  · exact ha
  · split
    · exact ha
    · split
      · exact ha
      · split
        · exact ha
        · rename_i h1 h2 h3; simp at h1 h3 ⊢; omega

theorem refTakeText_spec (w : World) (B : List UInt8) (a e : Nat) (most : Int) (ha : a ≤ B.length) (hB : B.length ≤ 140737488355328) :
    CallsR Try.prog 100 #[qV B a e, .int .i64 most] w fun r w' => r = .tuple #[qV B (textQ B a e most).1 (textQ B a e most).2, .string ⟨(textR (B.drop a) e most).1.toArray⟩] ∧ Upd w w' [] := by
  apply flotillaref01_TakeText_sound
  unfold flotillaref01_TakeText_x
  refine st_box (Upd.refl w []) (Owns.nil w) ?_
  intro g2 w1 hU1 hO1 hg2
  refine st_alloc ze155 hU1 hO1 ?_
  intro g4 w2 hU2 hO2 hg4
  have hO2 : Owns w2 [(g4, .cells #[.string ⟨#[]⟩, .int .i64 0, .int .i64 0] 155 (0, 0)), (g2, qO B a e)] := hO2
  rw [ld155 (hO2.at_ 1 rfl)]
  refine st_call (refTake_spec w2 B a e 2 ha hB (by omega)) ?_
  rintro _ w3 ⟨rfl, hU3⟩
  have hO3 := hO2.ext hU3
  have hU3 := hU2.trans hU3
  rw [px_ext20, px_ext21]
  refine st_alloc ze155 hU3 hO3 ?_
  intro g6 w4 hU4 hO4 hg6
  refine st_q hU4 hO4 0 rfl hg6 ?_
  intro w5 hU5 hO5 h5
  have hO5 : Owns w5 [(g6, qO B (takeQ B a e 2).1 (takeQ B a e 2).2), (g4, .cells #[.string ⟨#[]⟩, .int .i64 0, .int .i64 0] 155 (0, 0)), (g2, qO B a e)] := hO5
  have c2 : w5.cell? ⟨g6, 2, none⟩ = some (.int .i64 ((takeQ B a e 2).2 : Nat)) := cell_at h5
  simp (disch := first | assumption | omega) only [PX, BX, LX, add_mk, Nat.zero_add]
  -- an answer that is no text
  have tell : ∀ (w6 : World) (gs : Nat) (i : Nat) (a' e' : Nat) (H : List (Nat × Obj)), Upd w w6 [] → Owns w6 H → w6.heap[gs]? = some (qO B a' e') → H[1]? = some (g4, .cells #[.string ⟨#[]⟩, .int .i64 0, .int .i64 0] 155 (0, 0)) → textQ B a e most = (a', e') → (textR (B.drop a) e most).1 = [] →
      (std Try.prog).step (sLoad 155 (.pointer (some ⟨gs, 0, none⟩))) w6 fun v u => (std Try.prog).step (sStore 155 (.pointer (some ⟨g4, 0, none⟩)) v) u fun _ u => (std Try.prog).loadR 155 (.pointer (some ⟨g4, 0, none⟩)) u fun r =>
        (Value.tuple #[r, .string ⟨#[]⟩] = .tuple #[qV B (textQ B a e most).1 (textQ B a e most).2, .string ⟨(textR (B.drop a) e most).1.toArray⟩] ∧ Upd w u []) := by
    intro w6 gs i a' e' H hU6 hO6 hgs hH hq hm
    rw [ld155 hgs]
    refine st_q hU6 hO6 1 hH hg4 ?_
    intro w7 hU7 hO7 h7
    refine ldr155 h7 ⟨?_, hU7⟩
    rw [hq, hm]
  refine ⟨fun he => ?_, fun he => ?_⟩
  · refine tell w5 g6 0 _ _ _ hU5 hO5 h5 rfl ?_ ?_
    · unfold textQ takeQ at *
      by_cases h1 : e ≠ 0
      · simp only [if_pos h1]
      · simp only [if_neg h1] at he ⊢
        by_cases h2 : (B.drop a).length < 2
        · simp only [if_pos h2]
        · simp only [if_neg h2] at he; exact absurd rfl he
    · unfold textR takeQ at *
      by_cases h1 : e ≠ 0
      · simp only [if_pos h1]
      · simp only [if_neg h1] at he ⊢
        by_cases h2 : (B.drop a).length < 2
        · simp only [if_pos h2]
        · simp only [if_neg h2] at he; exact absurd rfl he
  have h1 : ¬ e ≠ 0 := by
    intro h; apply he; unfold takeQ; simp only [if_pos h]; omega
  have h2 : ¬ (B.drop a).length < 2 := by
    intro h; apply he; unfold takeQ; simp only [if_neg h1, if_pos h]; decide
  have hq2 : takeQ B a e 2 = (a + 2, 0) := by unfold takeQ; rw [if_neg h1, if_neg h2]
  have hv : (takeR (B.drop a) e 2).1 = (B.drop a).take 2 := by unfold takeR; rw [if_neg h1, if_neg h2]
  rw [hq2] at hO5 h5
  rw [hv]
  have hlt := leVal_lt ((B.drop a).take 2)
  have hl2 : ((B.drop a).take 2).length = 2 := by rw [List.length_take]; omega
  rw [hl2] at hlt
  generalize hn : leVal ((B.drop a).take 2) = n at *
  have e0 : e = 0 := by omega
  subst e0
  have hdl : (B.drop a).length = B.length - a := List.length_drop
  have hdl2 : (B.drop (a + 2)).length = B.length - (a + 2) := List.length_drop
  have rest : ∀ mx : Int, mx = max most 0 → flotillaref01_TakeText_k1 (std Try.prog) (.pointer (some ⟨g2, 0, none⟩)) (.pointer (some ⟨g4, 0, none⟩)) (.int .u64 (n : Nat)) (.pointer (some ⟨g6, 0, none⟩)) (.int .i64 mx) w5 fun r w' => r = .tuple #[qV B (textQ B a 0 most).1 (textQ B a 0 most).2, .string ⟨(textR (B.drop a) 0 most).1.toArray⟩] ∧ Upd w w' [] := by
    intro mx hmx
    unfold flotillaref01_TakeText_k1
    simp (disch := first | assumption | omega) only [PX, BX, add_mk, Nat.zero_add, w64]
    refine ⟨fun hgt => ?_, fun hle => ?_⟩
    · refine st_storeB sz24 rfl hU5 hO5 2 rfl (by simp) (.inr (Nat.zero_le _)) (.inr hg2) ?_
      intro w6 hU6 hO6
      have hO6 : Owns w6 [(g6, qO B (a + 2) 0), (g4, .cells #[.string ⟨#[]⟩, .int .i64 0, .int .i64 0] 155 (0, 0)), (g2, qO B a 3)] := hO6
      refine tell w6 g2 2 a 3 _ hU6 hO6 (hO6.at_ 2 rfl) rfl ?_ ?_
      · unfold textQ; rw [if_neg h1, if_neg h2, hn, if_pos (by omega)]
      · unfold textR; rw [if_neg h1, if_neg h2, hn, if_pos (by omega)]
    rw [ld155 h5]
    refine st_call (refLeft_spec w5 B (a + 2) 0 (by omega) (by unfold maxLen; omega)) ?_
    rintro _ w6 ⟨rfl, hU6⟩
    have hO6 := hO5.ext hU6
    have hU6 := hU5.trans hU6
    have c1 : w6.cell? ⟨g6, 1, none⟩ = some (.int .i64 ((a + 2 : Nat) : Int)) := cell_at (hO6.at_ 0 rfl)
    simp (disch := first | assumption | omega) only [PX, BX, LX, add_mk, Nat.zero_add, w64]
    refine ⟨fun hlt2 => ?_, fun hge => ?_⟩
    · refine st_storeB sz24 rfl hU6 hO6 2 rfl (by simp) (.inr (Nat.zero_le _)) (.inr hg2) ?_
      intro w7 hU7 hO7
      have hO7 : Owns w7 [(g6, qO B (a + 2) 0), (g4, .cells #[.string ⟨#[]⟩, .int .i64 0, .int .i64 0] 155 (0, 0)), (g2, qO B a 4)] := hO7
      refine tell w7 g2 2 a 4 _ hU7 hO7 (hO7.at_ 2 rfl) rfl ?_ ?_
      · unfold textQ; rw [if_neg h1, if_neg h2, hn, if_neg (by omega), if_pos (by omega)]
      · unfold textR; rw [if_neg h1, if_neg h2, hn, if_neg (by omega), List.drop_drop, if_pos (by omega)]
    refine st_storeB sz3 rfl hU6 hO6 0 rfl (by simp) (.inr (Nat.zero_le _)) (.inr hg6) ?_
    intro w7 hU7 hO7
    rw [← Int.natCast_add] at hO7
    have hO7 : Owns w7 [(g6, qO B (a + 2 + n) 0), (g4, .cells #[.string ⟨#[]⟩, .int .i64 0, .int .i64 0] 155 (0, 0)), (g2, qO B a 0)] := hO7
    let S : World → Prop := fun w' => w'.heap[g6]? = some (qO B (a + 2 + n) 0) ∧ w'.heap[g2]? = some (qO B a 0)
    have hO8 := hO7.ext (Upd.drew w7 [])
    have hS : S w7.drew := ⟨hO8.at_ 0 rfl, hO8.at_ 2 rfl⟩
    have hne : ∃ w', S w' := ⟨_, hS⟩
    have d1 : ∀ w', S w' → w'.cell? ⟨g6, 1, none⟩ = some (.int .i64 ((a + 2 + n : Nat) : Int)) := fun w' h => cell_at h.1
    have d0 : ∀ w', S w' → w'.cell? ⟨g2, 0, none⟩ = some (.string ⟨B.toArray⟩) := fun w' h => cell_at h.2
    refine st_draw S hS ?_
    rw [stepS_run hne fun w' h => run_sLoad (run_loadVarN (cs := [.string ⟨B.toArray⟩, .int .i64 ((a + 2 + n : Nat) : Int), .int .i64 ((0 : Nat) : Int)]) ag155 (by rw [sz155]; rfl) (cells_read h.1))]
    simp (disch := first | assumption | omega) only [SX, SLX, add_mk, Nat.zero_add, w64]
    have hsl : ∀ w' : World, (sSlice 9 (.string ⟨B.toArray⟩) (some (.int .i64 (((a + 2 + n : Nat) : Int) - (n : Int)))) (some (.int .i64 ((a + 2 + n : Nat) : Int))) none).run Try.prog w' = .ok (.value (.string ⟨((B.drop (a + 2)).take n).toArray⟩)) w' := by
      intro w'
      unfold sSlice Instr.sliceAt
      rw [run_sV, Sem.run_bind, run_underlying' u9]
      have hb : ((a + 2 + n : Nat) : Int) ≤ ((⟨B.toArray⟩ : ByteArray).size : Nat) := by rw [size_mk]; omega
      have hlo : ((a + 2 + n : Nat) : Int) - (n : Int) = ((a + 2 : Nat) : Int) := by omega
      rw [hlo]
      simp only [Result.andThen_ok, Instr.slice, Sem.run_bind, run_underlying' u9, Instr.sliceBounds, Sem.run_pure, sliceBound_run (show (0 : Int) ≤ ((a + 2 + n : Nat) : Int) by omega) hb, Option.isSome_none, Bool.false_eq_true, if_false, mk_extract, Int.toNat_natCast]
      rw [sliceBound_run (show (0 : Int) ≤ ((a + 2 : Nat) : Int) by omega) (show ((a + 2 : Nat) : Int) ≤ ((a + 2 + n : Nat) : Int) by omega)]
      simp only [Result.andThen_ok, Int.toNat_natCast]
      rw [show a + 2 + n - (a + 2) = n by omega]
    rw [stepS_run hne fun w' _ => hsl w']
    refine st_q (hU7.trans (Upd.drew w7 [])) hO8 1 rfl hg4 ?_
    intro w9 hU9 hO9 h9
    refine st_same ⟨hO9.at_ 0 rfl, hO9.at_ 2 rfl⟩ ?_
    refine ldr155 h9 ⟨?_, hU9⟩
    have hQ : textQ B a 0 most = (a + 2 + n, 0) := by unfold textQ; rw [if_neg h1, if_neg h2, hn, if_neg (by omega), if_neg (by omega)]
    have hT : (textR (B.drop a) 0 most).1 = (B.drop (a + 2)).take n := by unfold textR; rw [if_neg h1, if_neg h2, hn, if_neg (by omega), List.drop_drop, if_neg (by omega)]
    rw [hQ, hT]
  exact ⟨fun hm => rest 0 (by omega), fun hm => rest most (by omega)⟩

theorem refEnd_spec (w : World) (B : List UInt8) (a e : Nat) (ha : a ≤ B.length) (hB : B.length ≤ maxLen) : CallsR Try.prog 88 #[qV B a e] w fun r w' => r = .int .i64 (endR (B.drop a) e : Nat) ∧ Upd w w' [] := by
  apply flotillaref01_End_sound
  unfold flotillaref01_End_x
  refine st_box (Upd.refl w []) (Owns.nil w) ?_
  intro g w1 hU1 hO1 hg
  have hO1 : Owns w1 [(g, qO B a e)] := hO1
  have c2 : w1.cell? ⟨g, 2, none⟩ = some (.int .i64 (e : Nat)) := cell_at (hO1.at_ 0 rfl)
  simp (disch := first | assumption | omega) only [PX, BX, LX, add_mk, Nat.zero_add, flotillaref01_End_k1]
  unfold endR
  refine ⟨fun he => ?_, fun he => ?_⟩
  · rw [ld155 (hO1.at_ 0 rfl)]
    refine st_call (refLeft_spec w1 B a e ha hB) ?_
    rintro _ w2 ⟨rfl, hU2⟩
    have c2 : w2.cell? ⟨g, 2, none⟩ = some (.int .i64 (e : Nat)) := cell_at ((hO1.ext hU2).at_ 0 rfl)
    simp (disch := first | assumption | omega) only [PX, BX, LX, add_mk, Nat.zero_add]
    refine ⟨fun hl => ⟨?_, hU1.trans hU2⟩, fun hl => ⟨?_, hU1.trans hU2⟩⟩
    · rw [if_pos ⟨by omega, by intro h; rw [h] at hl; simp at hl⟩]; rfl
    · rw [if_neg (by rintro ⟨_, h⟩; exact h (List.eq_nil_of_length_eq_zero (by omega)))]
  · rw [if_neg (by rintro ⟨h, _⟩; omega)]
    exact ⟨rfl, hU1⟩
end Go.Proofs.Ytplpjikcgheiiaa.Enc

/- Ported from another seat (crc/M.lean). -/
namespace Go.Proofs.Ytplpjikcgheiiaa.Crc
open Go
set_option linter.unusedVariables false
set_option linter.unusedSimpArgs false
set_option maxRecDepth 100000

def poly : Nat := 2197175160
/-- what one bit does to the register -/
def st (n : Nat) : Nat := (n / 2) ^^^ (if n % 2 = 1 then poly else 0)
def sts : Nat → Nat → Nat
  | 0, n => n
  | k + 1, n => sts k (st n)

theorem xor_half (a b : Nat) : (a ^^^ b) / 2 = (a / 2) ^^^ (b / 2) := by
  have := Nat.shiftRight_xor_distrib (a := a) (b := b) (i := 1)
  simpa [Nat.shiftRight_succ] using this
theorem xor_mod2 (a b : Nat) : (a ^^^ b) % 2 = (a + b) % 2 := by
  have h := Nat.testBit_xor a b 0
  simp only [Nat.testBit_zero] at h
  rcases Nat.mod_two_eq_zero_or_one a with ha | ha <;> rcases Nat.mod_two_eq_zero_or_one b with hb | hb <;> rcases Nat.mod_two_eq_zero_or_one (a ^^^ b) with hc | hc <;> simp [ha, hb, hc] at h <;> omega
theorem st_xor (a b : Nat) : st (a ^^^ b) = st a ^^^ st b := by
  unfold st
  rw [xor_half, xor_mod2]
  rcases Nat.mod_two_eq_zero_or_one a with ha | ha <;> rcases Nat.mod_two_eq_zero_or_one b with hb | hb
  · rw [if_neg (by omega), if_neg (by omega), if_neg (by omega)]; simp
  · rw [if_pos (by omega), if_neg (by omega), if_pos hb]; simp [Nat.xor_assoc]
  · rw [if_pos (by omega), if_pos ha, if_neg (by omega)]; simp only [Nat.xor_zero]; rw [Nat.xor_assoc, Nat.xor_comm (b / 2), ← Nat.xor_assoc]
  · rw [if_neg (by omega), if_pos ha, if_pos hb]
    rw [Nat.xor_zero, Nat.xor_assoc, Nat.xor_comm (b / 2), ← Nat.xor_assoc poly, Nat.xor_self, Nat.zero_xor]
theorem sts_xor (k : Nat) : ∀ a b : Nat, sts k (a ^^^ b) = sts k a ^^^ sts k b := by
  induction k with
  | zero => intro a b; rfl
  | succ k ih => intro a b; simp only [sts, st_xor, ih]
theorem st_lt {n : Nat} (h : n < 4294967296) : st n < 4294967296 := by
  have : (4294967296 : Nat) = 2 ^ 32 := rfl
  unfold st
  rw [this] at h ⊢
  refine Nat.xor_lt_two_pow (by omega) ?_
  split
  · decide
  · decide
theorem sts_lt (k : Nat) : ∀ {n : Nat}, n < 4294967296 → sts k n < 4294967296 := by
  induction k with
  | zero => intro n h; exact h
  | succ k ih => intro n h; exact ih (st_lt h)
theorem sts_add (a b : Nat) : ∀ n : Nat, sts (a + b) n = sts b (sts a n) := by
  induction a with
  | zero => intro n; rw [Nat.zero_add]; rfl
  | succ a ih => intro n; rw [Nat.succ_add]; exact ih (st n)
theorem st_even (m : Nat) : st (2 * m) = m := by
  unfold st
  rw [if_neg (by omega), Nat.xor_zero]
  omega
theorem sts4_16 (m : Nat) : sts 4 (16 * m) = m := by
  have h1 : 16 * m = 2 * (2 * (2 * (2 * m))) := by omega
  rw [h1]
  simp only [sts, st_even]
theorem split16 (n : Nat) : n = (16 * (n / 16)) ^^^ (n % 16) := by
  have h := Nat.two_pow_add_eq_or_of_lt (i := 4) (b := n % 16) (by omega) (n / 16)
  have h2 : 2 ^ 4 * (n / 16) + n % 16 = n := by omega
  have h3 : (16 * (n / 16)) &&& (n % 16) = 0 := by
    apply Nat.eq_of_testBit_eq
    intro i
    rw [Nat.testBit_and, Nat.zero_testBit]
    by_cases hi : i < 4
    · have : (16 * (n / 16)).testBit i = false := by
        rw [show 16 * (n / 16) = 2 ^ 4 * (n / 16) from rfl, Nat.testBit_two_pow_mul]
        simp; omega
      rw [this]; rfl
    · have : (n % 16).testBit i = false := by
        rw [show (16 : Nat) = 2 ^ 4 from rfl, Nat.testBit_mod_two_pow]
        simp; omega
      rw [this, Bool.and_false]
  have h4 : (16 * (n / 16)) ^^^ (n % 16) = (16 * (n / 16)) ||| (n % 16) := by
    apply Nat.eq_of_testBit_eq
    intro i
    have hb : ((16 * (n / 16)) &&& (n % 16)).testBit i = false := by rw [h3]; simp
    rw [Nat.testBit_and] at hb
    rw [Nat.testBit_xor, Nat.testBit_or]
    revert hb
    cases (16 * (n / 16)).testBit i <;> cases (n % 16).testBit i <;> simp
  rw [h4]
  have h5 : 2 ^ 4 * (n / 16) ||| n % 16 = n := by rw [← h, h2]
  exact h5.symm
/-- four bits by the table -/
theorem sts4 (n : Nat) : sts 4 n = (n / 16) ^^^ sts 4 (n % 16) := by
  have h := congrArg (sts 4) (split16 n)
  rw [sts_xor, sts4_16] at h
  exact h

/-- the register behind bytes -/
def reg (n : Nat) (l : List UInt8) : Nat := l.foldl (fun n x => sts 8 (n ^^^ x.toNat)) n
theorem reg_append (n : Nat) (a b : List UInt8) : reg n (a ++ b) = reg (reg n a) b := List.foldl_append ..
theorem reg_snoc (n : Nat) (l : List UInt8) (x : UInt8) : reg n (l ++ [x]) = sts 8 (reg n l ^^^ x.toNat) := by rw [reg_append]; rfl
theorem byte_lt (x : UInt8) : x.toNat < 256 := x.toNat_lt
theorem xor_lt32 {a b : Nat} (ha : a < 4294967296) (hb : b < 4294967296) : a ^^^ b < 4294967296 := Nat.xor_lt_two_pow (n := 32) ha hb
theorem reg_lt (l : List UInt8) : ∀ {n : Nat}, n < 4294967296 → reg n l < 4294967296 := by
  induction l with
  | nil => intro n h; exact h
  | cons x l ih => intro n h; exact ih (sts_lt 8 (xor_lt32 h (by have := byte_lt x; omega)))
theorem byte_step (n x : Nat) : sts 8 (n ^^^ x) = ((((n ^^^ x) / 16) ^^^ sts 4 ((n ^^^ x) % 16)) / 16) ^^^ sts 4 ((((n ^^^ x) / 16) ^^^ sts 4 ((n ^^^ x) % 16)) % 16) := by
  rw [show 8 = 4 + 4 from rfl, sts_add, sts4 (sts 4 (n ^^^ x)), sts4 (n ^^^ x)]
/-- the sum: of what had the sum s, and l behind it -/
def more (s : Nat) (l : List UInt8) : Nat := 4294967295 - reg (4294967295 - s) l
theorem more_lt (s : Nat) (l : List UInt8) : more s l < 4294967296 := by unfold more; omega
theorem more_append {s : Nat} (a b : List UInt8) : more s (a ++ b) = more (more s a) b := by
  unfold more
  rw [reg_append]
  have h := reg_lt a (n := 4294967295 - s) (by omega)
  rw [show 4294967295 - (4294967295 - reg (4294967295 - s) a) = reg (4294967295 - s) a by omega]
theorem more_nil {s : Nat} (h : s < 4294967296) : more s [] = s := by unfold more reg; simp; omega

/-- two halves that stand beside each other: bit by bit, the register and the byte apart -/
theorem st_pair (n x : Nat) : ((n / 2) ^^^ (if n % 2 = x % 2 then 0 else poly)) ^^^ (x / 2) = st (n ^^^ x) := by
  unfold st
  rw [xor_half, xor_mod2]
  by_cases h : n % 2 = x % 2
  · rw [if_pos h, if_neg (by omega)]; simp
  · rw [if_neg h, if_pos (by omega), Nat.xor_assoc, Nat.xor_comm poly, ← Nat.xor_assoc]

theorem inv_xor {n : Nat} (h : n < 4294967296) : 4294967295 ^^^ n = 4294967295 - n := by
  have h1 : (4294967295 : Nat) = 2 ^ 32 - 1 := rfl
  have h2 : 4294967295 - n = 2 ^ 32 - (n + 1) := by omega
  apply Nat.eq_of_testBit_eq
  intro i
  rw [Nat.testBit_xor, h2, Nat.testBit_two_pow_sub_succ h, h1, Nat.testBit_two_pow_sub_one]
  by_cases hi : i < 32
  · simp [hi]
  · simp [hi]
    exact Nat.testBit_lt_two_pow (Nat.lt_of_lt_of_le h (Nat.pow_le_pow_right (n := 2) (by omega) (show 32 ≤ i by omega)))

/-! the machine's numbers -/

theorem u32_ofInt (a : Nat) (ha : a < 4294967296) : (BitVec.ofInt 32 (a : Int)).toNat = a := by
  rw [BitVec.ofInt_natCast, BitVec.toNat_ofNat]; exact Nat.mod_eq_of_lt (by omega)

end Go.Proofs.Ytplpjikcgheiiaa.Crc

/- Ported from another seat (crc/S.lean). -/
namespace Go.Proofs.Ytplpjikcgheiiaa.Crc
open Go Go.Proofs.Ytplpjikcgheiiaa Xf Go.RowKit
set_option linter.unusedVariables false
set_option linter.unusedSimpArgs false
set_option maxRecDepth 100000
/-! the machine's bits -/
theorem wrap_u32 {a : Int} (h0 : 0 ≤ a) (h1 : a < 4294967296) : IntKind.wrap .u32 a = a := by
  rw [IntKind.wrap_u32]; omega
theorem bit_xor {a b : Nat} (ha : a < 4294967296) (hb : b < 4294967296) : bitOp .xor .u32 (a : Int) (b : Int) = ((a ^^^ b : Nat) : Int) := by
  have hx := xor_lt32 ha hb
  show IntKind.wrap .u32 ((BitVec.ofInt 32 (a : Int) ^^^ BitVec.ofInt 32 (b : Int) : BitVec 32).toNat : Int) = _
  rw [BitVec.toNat_xor, u32_ofInt a ha, u32_ofInt b hb, wrap_u32 (by omega) (by omega)]
theorem bit_and {a b : Nat} (ha : a < 4294967296) (hb : b < 4294967296) : bitOp .and .u32 (a : Int) (b : Int) = ((a &&& b : Nat) : Int) := by
  have hx : a &&& b < 4294967296 := Nat.lt_of_le_of_lt Nat.and_le_left ha
  show IntKind.wrap .u32 ((BitVec.ofInt 32 (a : Int) &&& BitVec.ofInt 32 (b : Int) : BitVec 32).toNat : Int) = _
  rw [BitVec.toNat_and, u32_ofInt a ha, u32_ofInt b hb, wrap_u32 (by omega) (by omega)]

theorem w64 {a : Int} (h0 : -9223372036854775808 ≤ a) (h1 : a < 9223372036854775808) : IntKind.wrap .i64 a = a := by
  rw [IntKind.wrap_i64]; omega
theorem bit_and1 {n : Nat} (h : n < 4294967296) : bitOp .and .u32 (n : Int) 1 = ((n % 2 : Nat) : Int) := by
  have := bit_and h (b := 1) (by omega)
  rwa [Nat.and_one_is_mod] at this
theorem bit_and15 {n : Nat} (h : n < 4294967296) : bitOp .and .u32 (n : Int) 15 = ((n % 16 : Nat) : Int) := by
  have := bit_and h (b := 15) (by omega)
  rwa [show n &&& 15 = n % 16 from Nat.and_two_pow_sub_one_eq_mod n 4] at this
theorem bit_xorp {n : Nat} (h : n < 4294967296) : bitOp .xor .u32 (n : Int) 2197175160 = ((n ^^^ poly : Nat) : Int) := bit_xor h (b := poly) (by decide)
theorem shr_u32 (n k : Nat) (hk : k ≤ 32) : Int.fdiv (n : Int) (2 ^ (min (Int.toNat (k : Int)) (IntKind.bits .u32))) = ((n / 2 ^ k : Nat) : Int) := by
  rw [show min (Int.toNat (k : Int)) (IntKind.bits .u32) = k by simp [IntKind.bits]; omega]
  rw [Int.fdiv_eq_ediv_of_nonneg _ (by exact Int.le_of_lt (Int.pow_pos (by decide)))]
  norm_cast
theorem shr1 (n : Nat) : Int.fdiv (n : Int) (2 ^ (min (Int.toNat 1) (IntKind.bits .u32))) = ((n / 2 : Nat) : Int) := shr_u32 n 1 (by omega)
theorem shr4 (n : Nat) : Int.fdiv (n : Int) (2 ^ (min (Int.toNat 4) (IntKind.bits .u32))) = ((n / 16 : Nat) : Int) := shr_u32 n 4 (by omega)

def tabV : List Value := (List.range 16).map fun i => .int .u32 (sts 4 i : Nat)
/-- the table, its first k places filled -/
def tabK (k : Nat) : List Value := (List.range 16).map fun i => .int .u32 (if i < k then (sts 4 i : Nat) else 0 : Nat)
theorem tabK_len (k : Nat) : (tabK k).length = 16 := by simp [tabK]
theorem tabK_set (k : Nat) (hk : k < 16) : (tabK k).set k (.int .u32 (sts 4 k : Nat)) = tabK (k + 1) := by
  apply List.ext_getElem?
  intro j
  by_cases hj : k = j
  · subst hj
    rw [List.getElem?_set_self (by rw [tabK_len]; exact hk)]
    simp [tabK, hk]
  · rw [List.getElem?_set_ne hj]
    by_cases hj16 : j < 16
    · simp only [tabK, List.getElem?_map, List.getElem?_range hj16, Option.map_some]
      by_cases h : j < k
      · rw [if_pos h, if_pos (by omega)]
      · rw [if_neg h, if_neg (by omega)]
    · rw [List.getElem?_eq_none (by rw [tabK_len]; omega), List.getElem?_eq_none (by rw [tabK_len]; omega)]
theorem tabK_16 : tabK 16 = tabV := by
  unfold tabK tabV
  apply List.map_congr_left
  intro i hi
  rw [if_pos (List.mem_range.1 hi)]
theorem tabK_one (k : Nat) : ∀ u ∈ tabK k, u.oneCell' = true := by
  intro u hu
  obtain ⟨i, _, rfl⟩ := List.mem_map.1 hu
  rfl

theorem sts_succ (j n : Nat) : sts (j + 1) n = st (sts j n) := by rw [sts_add]; rfl

theorem steps_spec (w : World) : CallsR Try.prog 98 #[] w fun v w' => v = .agg tabV.toArray ∧ Upd w w' [] := by
  apply crc_steps_sound
  unfold crc_steps_x
  refine st_alloc ze172 (Upd.refl w []) (Owns.nil w) ?_
  intro g0 w0 hU0 hO0 hg0
  refine st_alloc ze172 hU0 hO0 ?_
  intro g1 w1 hU1 hO1 hg1
  refine st_loop (fun vs w' => ∃ (i : Nat) (u0 u1 : Value), i ≤ 16 ∧ vs = [u0, u1, .int .i64 i] ∧ Upd w w' [] ∧ Owns w' [(g1, .cells (tabK i).toArray 172 (0, 0)), (g0, .cells (tabK 0).toArray 172 (0, 0))])
    (fun vs _ => match vs with | [_, _, .int _ i] => 16 - i.toNat | _ => 0) ⟨0, undef, undef, by omega, rfl, hU1, hO1⟩ ?_
  clear hU0 hO0 hU1 hO1
  rintro dv vs w2 - ⟨i, u0, u1, hi, rfl, hU2, hO2⟩
  simp (disch := omega) only [List.getD_cons_succ, List.getD_cons_zero, PX, BX, w64]
  refine ⟨fun hlt => ?_, fun hge => ?_⟩
  · have hlt' : i < 16 := by omega
    rw [wrap_u32 (by omega) (by omega)]
    refine st_loop (fun vs w' => ∃ j : Nat, j ≤ 4 ∧ vs = [.int .u32 (sts j i : Nat), .int .i64 j] ∧ w' = w2) (fun vs _ => match vs with | [_, .int _ j] => 4 - j.toNat | _ => 0) ⟨0, by omega, rfl, rfl⟩ ?_
    rintro dv vs w3 - ⟨j, hj, rfl, rfl⟩
    have hb : sts j i < 4294967296 := sts_lt j (by omega)
    simp (disch := omega) only [List.getD_cons_succ, List.getD_cons_zero, PX, BX, w64, bit_and1, crc_steps_k3, crc_steps_k2]
    refine ⟨fun hjl => ?_, fun hjg => ?_⟩
    · simp only [shr1]
      refine ⟨fun h => ⟨⟨j + 1, by omega, ?_, trivial⟩, by omega⟩, fun h => ⟨⟨j + 1, by omega, ?_, trivial⟩, by omega⟩⟩
      · rw [bit_xorp (by omega), sts_succ]
        unfold st
        rw [if_pos (by omega)]
        rfl
      · rw [sts_succ]
        unfold st
        rw [if_neg (by omega), Nat.xor_zero]
        rfl
    · obtain rfl : j = 4 := by omega
      rw [add_mk]
      refine st_storeB sz104 rfl hU2 hO2 0 rfl (by simp [tabK_len]; omega) (.inr (Nat.zero_le _)) (.inr hg1) ?_
      intro w4 hU4 hO4
      refine ⟨⟨i + 1, _, _, by omega, rfl, hU4, ?_⟩, by omega⟩
      have he : 0 + i = i := by omega
      rw [he] at hO4
      simpa [tabK_set i hlt'] using hO4
  · obtain rfl : i = 16 := by omega
    unfold crc_steps_k1
    refine st_loadN (cs := tabV) ag172 (by rw [sz172]; rfl) ?_ ?_
    · rw [← tabK_16]; exact cells_read (hO2.at_ 0 rfl)
    refine st_storeN (by rw [sz172]; rfl) hU2 hO2 1 rfl (by simp [tabK_len, tabV]) (by rw [← tabK_16]; exact tabK_one 16) (.inr hg0) ?_
    intro w3 hU3 hO3
    refine st_loadR (u := .agg tabV.toArray) ?_ ⟨rfl, hU3⟩
    refine run_loadVarN ag172 (by rw [sz172]; rfl) ?_
    have := hO3.at_ 1 rfl
    have he : (List.take 0 (tabK 0).toArray.toList ++ tabV ++ List.drop (0 + tabV.length) (tabK 0).toArray.toList) = tabV := by
      rw [List.drop_of_length_le (by simp [tabK_len, tabV])]; simp
    rw [he] at this
    exact cells_read this

theorem stepTab {w : World} {g : Nat} {h : List (Nat × Obj)} (hO : Owns w ((g, .cells tabV.toArray 172 (0, 0)) :: h)) {m : Nat} (hm : m < 16) {K : Value → World → Prop} (hk : K (.int .u32 (sts 4 m : Nat)) w) :
    (std Try.prog).step (sIndexAddr 172 (.pointer (some ⟨g, 0, none⟩)) (.int .u32 (m : Nat))) w fun v w => (std Try.prog).step (sLoad 104 v) w K := by
  rw [step_run (run_idxA u172 sz104 (by omega) (by omega)), add_mk]
  refine st_load ag104 ?_ hk
  rw [cell_at (hO.at_ 0 rfl), show 0 + (m : Int).toNat * 1 = m by omega]
  simp [tabV, hm]

theorem More_spec (w : World) (s : Nat) (hs : s < 4294967296) (v : Value) (l : List UInt8) (hl : l.length < 9223372036854775807) (hr : Rd w 1 v l.length (bytesV l)) :
    CallsR Try.prog 84 #[.int .u32 s, v] w fun r w' => r = .int .u32 (more s l : Nat) ∧ Upd w w' [] := by
  apply crc_More_sound
  unfold crc_More_x
  refine st_call (steps_spec w) ?_
  rintro _ w0 ⟨rfl, hU0⟩
  refine st_alloc ze172 hU0 (Owns.nil w0) ?_
  intro g w1 hU1 hO1 hg
  refine st_storeN (vs := tabV) (by rw [sz172]; rfl) hU1 hO1 0 rfl (by simp [tabV, Value.cells]) (by rw [← tabK_16]; exact tabK_one 16) (.inr hg) ?_
  intro w2 hU2 hO2
  have hO2 : Owns w2 [(g, .cells tabV.toArray 172 (0, 0))] := by simpa [tabV, Value.cells] using hO2
  clear hO1 hU1 hU0
  obtain ⟨A, c, rfl, hc, hlen, hcell⟩ := hr
  simp (disch := omega) only [PX]
  rw [show bitOp BinOp.xor IntKind.u32 (if IntKind.u32.signed = true then -1 else IntKind.u32.max) (s : Int) = ((4294967295 - s : Nat) : Int) from by
    rw [← inv_xor hs]; exact bit_xor (a := 4294967295) (by omega) hs]
  refine st_loop (fun vs w' => ∃ (k : Nat) (u : Value), k ≤ l.length ∧ vs = [u, .int .u32 (reg (4294967295 - s) (l.take k) : Nat), .int .i64 k] ∧ Upd w w' [] ∧ Owns w' [(g, .cells tabV.toArray 172 (0, 0))])
    (fun vs _ => match vs with | [_, _, .int _ i] => l.length - i.toNat | _ => 0) ⟨0, _, by omega, rfl, hU2, hO2⟩ ?_
  clear hU2 hO2
  rintro dv vs w3 - ⟨k, u, hk, rfl, hU3, hO3⟩
  have hreg : reg (4294967295 - s) (l.take k) < 4294967296 := reg_lt _ (by omega)
  simp (disch := omega) only [List.getD_cons_succ, List.getD_cons_zero, PX, BX]
  refine ⟨fun hlt => ?_, fun hge => ?_⟩
  · have hlt' : k < l.length := by omega
    obtain ⟨a, rfl, hca⟩ := hcell k (.int .u8 l[k].toNat) (by simp [bytesV, hlt'])
    have hca : w3.cell? (a.add ((k : Int).toNat * 1)) = some (.int .u8 l[k].toNat) := by
      rw [show (k : Int).toNat * 1 = k by omega, hU3.cell (World.block_lt_of_cell? w _ hca) (by simp)]; exact hca
    have hx := byte_lt l[k]
    rw [step_run (run_idxS u51 sz5 (by omega) hlt)]
    refine st_load ag5 hca ?_
    simp (disch := omega) only [PX, wrap_u32]
    have h1 : reg (4294967295 - s) (l.take k) ^^^ l[k].toNat < 4294967296 := xor_lt32 hreg (by omega)
    have h16 := h1
    generalize hn : reg (4294967295 - s) (l.take k) ^^^ l[k].toNat = n at h1
    simp (disch := omega) only [bit_xor, hn, PX, bit_and15, shr4]
    refine stepTab hO3 (by omega) ?_
    have h2 : n / 16 ^^^ sts 4 (n % 16) < 4294967296 := xor_lt32 (by omega) (sts_lt 4 (by omega))
    have h4 : sts 4 (n % 16) < 4294967296 := sts_lt 4 (by omega)
    generalize hm : n / 16 ^^^ sts 4 (n % 16) = m at h2
    simp (disch := omega) only [bit_xor, hm, PX, bit_and15, shr4]
    refine stepTab hO3 (by omega) ?_
    have h5 : sts 4 (m % 16) < 4294967296 := sts_lt 4 (by omega)
    simp (disch := omega) only [bit_xor, PX, w64]
    refine ⟨⟨k + 1, .int .u8 l[k].toNat, by omega, ?_, hU3, hO3⟩, by omega⟩
    rw [List.take_succ_eq_append_getElem hlt', reg_snoc, hn, ← hn, byte_step, hn, hm]
    rfl
  · obtain rfl : k = l.length := by omega
    unfold crc_More_k1
    simp (disch := omega) only [PX]
    refine ⟨?_, hU3⟩
    rw [List.take_length] at hreg ⊢
    unfold more
    rw [← inv_xor hreg]
    congr 1
    exact bit_xor (a := 4294967295) (by omega) hreg


theorem Sum_spec (w : World) (v : Value) (l : List UInt8) (hl : l.length < 9223372036854775807) (hr : Rd w 1 v l.length (bytesV l)) :
    CallsR Try.prog 69 #[v] w fun r w' => r = .int .u32 (more 0 l : Nat) ∧ Upd w w' [] := by
  apply crc_Sum_sound
  unfold crc_Sum_x
  refine st_call (More_spec w 0 (by omega) v l hl hr) ?_
  rintro _ w1 ⟨rfl, hU⟩
  exact ⟨rfl, hU⟩

/-- k bits of one byte -/
def refSt : Nat → Nat → Nat → Nat × Nat
  | 0, n, x => (n, x)
  | k + 1, n, x => refSt k ((n / 2) ^^^ (if n % 2 = x % 2 then 0 else poly)) (x / 2)
theorem refSt_xor (k : Nat) : ∀ n x, (refSt k n x).1 ^^^ (refSt k n x).2 = sts k (n ^^^ x) := by
  induction k with
  | zero => intro n x; rfl
  | succ k ih => intro n x; simp only [refSt, ih, sts, st_pair]
theorem refSt_snd (k : Nat) : ∀ n x, (refSt k n x).2 = x / 2 ^ k := by
  induction k with
  | zero => intro n x; simp [refSt]
  | succ k ih => intro n x; simp only [refSt, ih]; rw [Nat.div_div_eq_div_mul, Nat.pow_succ']
theorem refSt_succ (k : Nat) : ∀ n x, refSt (k + 1) n x = (((refSt k n x).1 / 2) ^^^ (if (refSt k n x).1 % 2 = (refSt k n x).2 % 2 then 0 else poly), (refSt k n x).2 / 2) := by
  induction k with
  | zero => intro n x; rfl
  | succ k ih => intro n x; rw [refSt, ih]; rfl
theorem refSt_8 (n : Nat) (x : UInt8) : (refSt 8 n x.toNat).1 = sts 8 (n ^^^ x.toNat) := by
  have h1 := refSt_xor 8 n x.toNat
  have h2 := refSt_snd 8 n x.toNat
  have h3 := byte_lt x
  rw [show x.toNat / 2 ^ 8 = 0 by omega] at h2
  rw [h2, Nat.xor_zero] at h1
  exact h1
theorem refSt_lt (k : Nat) : ∀ n x, n < 4294967296 → x < 4294967296 → (refSt k n x).1 < 4294967296 ∧ (refSt k n x).2 < 4294967296 := by
  induction k with
  | zero => intro n x hn hx; exact ⟨hn, hx⟩
  | succ k ih =>
    intro n x hn hx
    refine ih _ _ (xor_lt32 (by omega) ?_) (by omega)
    split
    · omega
    · decide

theorem rMore_spec (w : World) (s : Nat) (hs : s < 4294967296) (l : List UInt8) (hl : l.length < 9223372036854775807) :
    CallsR Try.prog 89 #[.int .u32 s, .string ⟨l.toArray⟩] w fun r w' => r = .int .u32 (more s l : Nat) ∧ w' = w := by
  apply flotillaref02_More_sound
  unfold flotillaref02_More_x
  simp (disch := omega) only [PX]
  rw [show IntKind.wrap IntKind.u32 (4294967295 - (s : Int)) = ((4294967295 - s : Nat) : Int) from by rw [wrap_u32 (by omega) (by omega)]; omega]
  refine st_loop (fun vs w' => ∃ k : Nat, k ≤ l.length ∧ vs.getD 2 undef = .int .u32 (reg (4294967295 - s) (l.take k) : Nat) ∧ vs.getD 4 undef = .int .i64 k ∧ w' = w)
    (fun vs _ => l.length - (intOf (vs.getD 4 undef)).toNat) ⟨0, by omega, rfl, rfl, rfl⟩ ?_
  rintro dv vs w3 - ⟨k, hk, e2, e4, rfl⟩
  have hreg : reg (4294967295 - s) (l.take k) < 4294967296 := reg_lt _ (by omega)
  simp (disch := omega) only [e2, e4, PX, BX, size_mk]
  refine ⟨fun hlt => ?_, fun hge => ?_⟩
  · have hlt' : k < l.length := by omega
    have hx := byte_lt l[k]
    rw [step_run (run_idxStr u9 (by omega) (b := l[k]) (by simp [hlt']))]
    simp (disch := omega) only [PX, wrap_u32]
    refine st_loop (fun vs w' => ∃ j : Nat, j ≤ 8 ∧ vs.getD 1 undef = .int .u32 ((refSt j (reg (4294967295 - s) (l.take k)) l[k].toNat).2 : Nat) ∧ vs.getD 2 undef = .int .u32 ((refSt j (reg (4294967295 - s) (l.take k)) l[k].toNat).1 : Nat) ∧ vs.getD 3 undef = .int .i64 j ∧ w' = w3)
      (fun vs _ => 8 - (intOf (vs.getD 3 undef)).toNat) ⟨0, by omega, rfl, rfl, rfl, rfl⟩ ?_
    rintro dv vs w4 - ⟨j, hj, f1, f2, f3, rfl⟩
    obtain ⟨hb1, hb2⟩ := refSt_lt j _ l[k].toNat hreg (by omega)
    have hsucc := refSt_succ j (reg (4294967295 - s) (l.take k)) l[k].toNat
    simp (disch := omega) only [f1, f2, f3, PX, BX, e4, flotillaref02_More_k3, flotillaref02_More_k2]
    refine ⟨fun hjl => ?_, fun hjg => ?_⟩
    · generalize (refSt j (reg (4294967295 - s) (l.take k)) l[k].toNat).1 = n at *
      generalize (refSt j (reg (4294967295 - s) (l.take k)) l[k].toNat).2 = x at *
      have hn2 : Int.tdiv (n : Int) 2 = ((n / 2 : Nat) : Int) := tdiv_nat n 2
      have hx2 : Int.tdiv (x : Int) 2 = ((x / 2 : Nat) : Int) := tdiv_nat x 2
      have hnm : Int.tmod (n : Int) 2 = ((n % 2 : Nat) : Int) := tmod_nat n 2
      have hxm : Int.tmod (x : Int) 2 = ((x % 2 : Nat) : Int) := tmod_nat x 2
      simp (disch := omega) only [hn2, hx2, hnm, hxm, wrap_u32, w64, bit_xorp]
      refine ⟨fun h => ⟨⟨j + 1, by omega, ?_, ?_, rfl, trivial⟩, ?_⟩, fun h => ⟨⟨j + 1, by omega, ?_, ?_, rfl, trivial⟩, ?_⟩⟩
      · rw [hsucc]; rfl
      · rw [hsucc, if_neg (by omega)]; rfl
      · simp only [List.getD_cons_succ, List.getD_cons_zero, intOf]; omega
      · rw [hsucc]; rfl
      · rw [hsucc, if_pos (by omega), Nat.xor_zero]; rfl
      · simp only [List.getD_cons_succ, List.getD_cons_zero, intOf]; omega
    · obtain rfl : j = 8 := by omega
      simp (disch := omega) only [w64]
      refine ⟨⟨k + 1, by omega, ?_, rfl, trivial⟩, ?_⟩
      · rw [List.take_succ_eq_append_getElem hlt', reg_snoc, ← refSt_8]
        rfl
      · simp only [List.getD_cons_succ, List.getD_cons_zero, intOf]; omega
  · obtain rfl : k = l.length := by omega
    unfold flotillaref02_More_k1
    simp (disch := omega) only [PX, wrap_u32]
    refine ⟨?_, trivial⟩
    rw [List.take_length] at hreg ⊢
    unfold more
    congr 1
    omega

theorem rSum_spec (w : World) (l : List UInt8) (hl : l.length < 9223372036854775807) :
    CallsR Try.prog 75 #[.string ⟨l.toArray⟩] w fun r w' => r = .int .u32 (more 0 l : Nat) ∧ w' = w := by
  apply flotillaref02_Sum_sound
  unfold flotillaref02_Sum_x
  refine st_call (rMore_spec w 0 (by omega) l hl) ?_
  rintro _ w1 ⟨rfl, rfl⟩
  exact ⟨rfl, rfl⟩


theorem check_lives : more 0 [49, 50, 51, 52, 53, 54, 55, 56, 57] = 3808858755 := by decide
theorem rd_row {w : World} {g n c : Nat} {cs : Array Value} {e : TypeId} {fr : Nat × Nat} {xs : List Value} (h : w.heap[g]? = some (.cells cs e fr)) (hn : xs.length = n) (hc : n ≤ c) (hx : cs.toList.take n = xs) : Rd w 1 (.slice (some ⟨g, 0, none⟩) n c) n xs := by
  refine ⟨_, _, rfl, hc, by omega, fun j u hu => ⟨_, rfl, ?_⟩⟩
  rw [add_mk, Nat.zero_add, cell_at h]
  rw [← hx, List.getElem?_take] at hu
  split at hu
  · simpa using hu
  · cases hu

end Go.Proofs.Ytplpjikcgheiiaa.Crc

/- Ported from another seat (crc/S2.lean). -/
namespace Go.Proofs.Ytplpjikcgheiiaa.Crc
open Go Go.Proofs.Ytplpjikcgheiiaa Xf Go.RowKit
set_option linter.unusedVariables false
set_option linter.unusedSimpArgs false
set_option maxRecDepth 100000

theorem wrap_u8 (n : Nat) : IntKind.wrap .u8 (n : Int) = ((n % 256 : Nat) : Int) := by
  rw [IntKind.wrap_u8]; omega
def le4 (n : Nat) : List UInt8 := [UInt8.ofNat n, UInt8.ofNat (n / 256), UInt8.ofNat (n / 65536), UInt8.ofNat (n / 16777216)]
theorem ofNat_toNat (n : Nat) : (UInt8.ofNat n).toNat = n % 256 := by simp
theorem le4_V (n : Nat) : bytesV (le4 n) = [.int .u8 ((n % 256 : Nat) : Int), .int .u8 ((n / 256 % 256 : Nat) : Int), .int .u8 ((n / 65536 % 256 : Nat) : Int), .int .u8 ((n / 16777216 % 256 : Nat) : Int)] := by
  simp [bytesV, le4]
theorem le4_at (n i : Nat) (hi : i < 4) : (le4 n)[i]? = some (UInt8.ofNat (n / 2 ^ (8 * i))) := by
  rcases (by omega : i = 0 ∨ i = 1 ∨ i = 2 ∨ i = 3) with rfl | rfl | rfl | rfl <;> simp [le4]
theorem tdv (n k : Nat) : Int.tdiv (n : Int) (k : Int) = ((n / k : Nat) : Int) := rfl
theorem four_row (a b c d : Int) (w : World) : (sBuildSlice 51 4 [(0, .int .u8 a), (1, .int .u8 b), (2, .int .u8 c), (3, .int .u8 d)]).run Try.prog w = .ok (.value (.slice (some ⟨w.heap.size, 0, none⟩) 4 4)) (w.alloc (.cells #[.int .u8 a, .int .u8 b, .int .u8 c, .int .u8 d] 5)) := by kernel_rfl

theorem Four_spec (w : World) (n : Nat) (hn : n < 4294967296) : CallsR Try.prog 74 #[.int .u32 n] w fun r w' => r = .string ⟨(le4 n).toArray⟩ ∧ Upd w w' [] := by
  apply flotillaref02_Four_sound
  unfold flotillaref02_Four_x
  have h1 : Int.tmod (n : Int) 256 = ((n % 256 : Nat) : Int) := tmod_nat n 256
  have h2 : Int.tdiv (n : Int) 256 = ((n / 256 : Nat) : Int) := tdv n 256
  have h3 : Int.tdiv (n : Int) 65536 = ((n / 65536 : Nat) : Int) := tdv n 65536
  have h4 : Int.tdiv (n : Int) 16777216 = ((n / 16777216 : Nat) : Int) := tdv n 16777216
  have h5 : Int.tmod ((n / 256 : Nat) : Int) 256 = ((n / 256 % 256 : Nat) : Int) := tmod_nat _ 256
  have h6 : Int.tmod ((n / 65536 : Nat) : Int) 256 = ((n / 65536 % 256 : Nat) : Int) := tmod_nat _ 256
  simp (disch := omega) only [PX, h1, h2, h3, h4, wrap_u32, h5, h6, wrap_u8, Nat.mod_mod]
  refine st_newRow (four_row _ _ _ _) (Upd.refl w []) (Owns.nil w) ?_
  intro g w1 hU1 hO1 hg
  rw [step_run (run_str (l := le4 n) u51 u5 u9 (rd_row (hO1.at_ 0 rfl) (by rw [bytesV_len]; rfl) (by omega) (by rw [le4_V]; rfl)))]
  exact ⟨rfl, hU1⟩

theorem rSeal_spec (w : World) (l : List UInt8) (hl : l.length < 4611686018427387904) : CallsR Try.prog 60 #[.string ⟨l.toArray⟩] w fun r w' => r = .string ⟨(l ++ le4 (more 0 l)).toArray⟩ ∧ Upd w w' [] := by
  apply flotillaref02_Seal_sound
  unfold flotillaref02_Seal_x
  refine st_call (rSum_spec w l (by omega)) ?_
  rintro _ w1 ⟨rfl, rfl⟩
  refine st_call (Four_spec w1 _ (more_lt _ _)) ?_
  rintro _ w2 ⟨rfl, hU⟩
  have hs : (⟨(le4 (more 0 l)).toArray⟩ : ByteArray).size = 4 := rfl
  simp (disch := simp only [size_mk, hs]; omega) only [PX, mk_append]
  exact ⟨by trivial, hU⟩

theorem empty_row (w : World) : (sBuildSlice 51 0 []).run Try.prog w = .ok (.value (.slice (some ⟨w.heap.size, 0, none⟩) 0 0)) (w.alloc (.cells #[] 5)) := by kernel_rfl
theorem row0 (g : Nat) : RowH 5 1 (.slice (some ⟨g, 0, none⟩) 0 0) 0 [] [(g, .cells #[] 5)] := ⟨rfl, .inr ⟨g, 0, #[], rfl, rfl, Nat.le_refl _, Nat.zero_le _, rfl, rfl⟩⟩

/-- append of bytes onto a row of bytes -/
theorem st_app {w W : World} {K : Value → World → Prop} {ty : TypeId} {c : List Bool} {v u : Value} {n m : Nat} {a b : List UInt8} {h F : List (Nat × Obj)} {ks : List Nat} (hr : RowH 5 1 v n (bytesV a) h) (hO : Owns w (h ++ F)) (hU : Upd W w ks) (hh : ∀ p ∈ h, p.1 ∈ ks ∨ W.heap.size ≤ p.1)
    (hrd : Rd w 1 u m (bytesV b)) (hby : n + m ≤ 140737488355328)
    (hk : ∀ v' w' h', RowH 5 1 v' (n + m) (bytesV (a ++ b)) h' → Owns w' (h' ++ F) → Upd W w' ks → (∀ p ∈ h', p.1 ∈ ks ∨ W.heap.size ≤ p.1) → K v' w') : (std Try.prog).step (sBuiltin .append #[51, 51] ty c [v, u]) w K := by
  obtain ⟨i, hi, hz, hs, hb⟩ := inf5
  refine st_append u51 hi hz hs hb rfl (by omega) hr hO hU hh hrd (bytesV_one b) (by unfold maxLen; omega) (by omega) ?_
  have he : bytesV a ++ bytesV b = bytesV (a ++ b) := by simp [bytesV]
  rw [he]
  exact hk

/-- what is answered is bytes in new memory -/
def NewBytes (w w' : World) (v : Value) (l : List UInt8) : Prop := ∃ h, RowH 5 1 v l.length (bytesV l) h ∧ Owns w' h ∧ Upd w w' [] ∧ ∀ p ∈ h, w.heap.size ≤ p.1

theorem Seal_spec (w : World) (v : Value) (l : List UInt8) (hl : l.length < 140737488350000) (hr : Rd w 1 v l.length (bytesV l)) : CallsR Try.prog 45 #[v] w fun r w' => NewBytes w w' r (l ++ le4 (more 0 l)) := by
  apply crc_Seal_sound
  unfold crc_Seal_x
  refine st_call (Sum_spec w v l (by omega) hr) ?_
  rintro _ w1 ⟨rfl, hU1⟩
  refine st_newRow empty_row hU1 (Owns.nil w1) ?_
  intro g w2 hU2 hO2 hg
  refine st_app (F := []) (a := []) (row0 g) hO2 hU2 (fun p hp => by simp at hp; subst hp; exact .inr hg) (hr.mono hU2) (by omega) ?_
  intro v3 w3 h3 hr3 hO3 hU3 hh3
  have hn := more_lt 0 l
  generalize hN : more 0 l = n at hn
  have e8 : Int.fdiv (n : Int) (2 ^ (min (Int.toNat 8) (IntKind.bits .u32))) = ((n / 256 : Nat) : Int) := shr_u32 n 8 (by omega)
  have e16 : Int.fdiv (n : Int) (2 ^ (min (Int.toNat 16) (IntKind.bits .u32))) = ((n / 65536 : Nat) : Int) := shr_u32 n 16 (by omega)
  have e24 : Int.fdiv (n : Int) (2 ^ (min (Int.toNat 24) (IntKind.bits .u32))) = ((n / 16777216 : Nat) : Int) := shr_u32 n 24 (by omega)
  simp (disch := omega) only [PX, wrap_u8, e8, e16, e24]
  refine st_newRow (four_row _ _ _ _) hU3 hO3 ?_
  intro g4 w4 hU4 hO4 hg4
  refine st_app (F := [(g4, _)]) (b := le4 n) hr3 (hO4.perm (by simpa using List.perm_append_comm (l₁ := [_]) (l₂ := h3))) hU4 hh3 (rd_row (n := 4) (c := 4) (hO4.at_ 0 rfl) (by rw [bytesV_len]; rfl) (by omega) (by rw [le4_V]; rfl)) (by omega) ?_
  intro v5 w5 h5 hr5 hO5 hU5 hh5
  refine ⟨h5, ?_, hO5.sub (List.sublist_append_left _ _), hU5, fun p hp => (hh5 p hp).resolve_left (by simp)⟩
  have : (l ++ le4 n).length = 0 + l.length + 4 := by simp [le4]
  rw [this]
  simpa using hr5


/-- the document's way to open -/
def openL (l : List UInt8) : List UInt8 × Nat :=
  if l.length < 4 then ([], 4) else if l.drop (l.length - 4) = le4 (more 0 (l.take (l.length - 4))) then (l.take (l.length - 4), 0) else ([], 6)

theorem mk_extract (l : List UInt8) (a b : Nat) : (⟨l.toArray⟩ : ByteArray).extract a b = ⟨((l.drop a).take (b - a)).toArray⟩ := by
  apply ByteArray.ext
  apply Array.ext'
  rw [ByteArray.data_extract]
  simp [List.extract_eq_take_drop]
/-- x[:hi] and x[lo:] of a string -/
theorem run_strTo {P : Program} {w : World} {t : TypeId} {l : List UInt8} {q : IntKind} {i : Int} (ht : P.underlying t = some .string) (h0 : 0 ≤ i) (h1 : i ≤ l.length) :
    (sSlice t (.string ⟨l.toArray⟩) none (some (.int q i)) none).run P w = .ok (.value (.string ⟨(l.take i.toNat).toArray⟩)) w := by
  unfold sSlice Instr.sliceAt
  rw [run_sV, Sem.run_bind, run_underlying' ht]
  have hb : i ≤ ((⟨l.toArray⟩ : ByteArray).size : Nat) := by rw [size_mk]; exact h1
  simp only [Result.andThen_ok, Instr.slice, Sem.run_bind, run_underlying' ht, Instr.sliceBounds, Sem.run_pure, sliceBound_run h0 hb, Option.isSome_none, Bool.false_eq_true, if_false, mk_extract, List.drop_zero, Nat.sub_zero]
theorem run_strFrom {P : Program} {w : World} {t : TypeId} {l : List UInt8} {q : IntKind} {i : Int} (ht : P.underlying t = some .string) (h0 : 0 ≤ i) (h1 : i ≤ l.length) :
    (sSlice t (.string ⟨l.toArray⟩) (some (.int q i)) none none).run P w = .ok (.value (.string ⟨(l.drop i.toNat).toArray⟩)) w := by
  unfold sSlice Instr.sliceAt
  rw [run_sV, Sem.run_bind, run_underlying' ht]
  have hb : i ≤ ((⟨l.toArray⟩ : ByteArray).size : Nat) := by rw [size_mk]; exact h1
  simp only [Result.andThen_ok, Instr.slice, Sem.run_bind, run_underlying' ht, Instr.sliceBounds, Sem.run_pure, sliceBound_run h0 h1, Option.isSome_none, Bool.false_eq_true, if_false, mk_extract, size_mk, Result.andThen_ok]
  rw [List.take_of_length_le (by rw [List.length_drop]; exact Nat.le_refl _)]

theorem rOpen_spec (w : World) (l : List UInt8) (hl : l.length < 4611686018427387904) : CallsR Try.prog 71 #[.string ⟨l.toArray⟩] w fun r w' => r = .tuple #[.string ⟨(openL l).1.toArray⟩, .int .i64 ((openL l).2 : Nat)] ∧ Upd w w' [] := by
  apply flotillaref02_Open_sound
  unfold flotillaref02_Open_x
  simp (disch := omega) only [PX, BX, size_mk, w64]
  refine ⟨fun h => ?_, fun h => ?_⟩
  · unfold openL
    rw [if_pos (by omega)]
    exact ⟨rfl, Upd.refl w []⟩
  have hne : ∃ w', (fun w' => Upd w w' []) w' := ⟨w, Upd.refl w []⟩
  refine st_draw (fun w' => Upd w w' []) (Upd.drew w []) ?_
  rw [stepS_run hne fun w' hw => run_strFrom u9 (by omega) (by omega), stepS_run hne fun w' hw => run_strTo u9 (by omega) (by omega)]
  have hk : ((l.length : Int) - 4).toNat = l.length - 4 := by omega
  rw [hk]
  refine st_call (rSum_spec _ (l.take (l.length - 4)) (by simp; omega)) ?_
  rintro _ w1 ⟨rfl, rfl⟩
  refine st_same (Upd.drew w []) ?_
  refine st_call (Four_spec _ _ (more_lt _ _)) ?_
  rintro _ w2 ⟨rfl, hU2⟩
  have hU2 := (Upd.drew w []).trans hU2
  refine st_same hU2 ?_
  rw [sx_sneq hne]
  simp only [BX, mk_inj]
  unfold openL
  rw [if_neg (by omega)]
  refine ⟨fun he => ?_, fun he => ?_⟩
  · rw [step_run (run_strTo u9 (by omega) (by omega)), hk, if_pos he]
    exact ⟨rfl, hU2⟩
  · rw [if_neg he]
    exact ⟨rfl, hU2⟩

theorem four_eq (a b : List UInt8) (hb : b.length = 4) (ha : a.length = 4) (h : ∀ i, i < 4 → a[i]? = b[i]?) : a = b := by
  apply List.ext_getElem?
  intro i
  by_cases hi : i < 4
  · exact h i hi
  · rw [List.getElem?_eq_none (by omega), List.getElem?_eq_none (by omega)]

theorem Open_spec (w : World) (v : Value) (l : List UInt8) (hl : l.length < 140737488350000) (hr : Rd w 1 v l.length (bytesV l)) :
    CallsR Try.prog 76 #[v] w fun r w' => ∃ u, r = .tuple #[u, .int .i64 ((openL l).2 : Nat)] ∧ NewBytes w w' u (openL l).1 := by
  apply crc_Open_sound
  unfold crc_Open_x
  have hr' := hr
  obtain ⟨A, c, rfl, hc, hlen, hcell⟩ := hr'
  simp (disch := omega) only [PX, BX, w64]
  have none_ : ∀ (w' : World), Upd w w' [] → NewBytes w w' (.slice none 0 0) [] := fun w' hU => ⟨[], RowH.nil_ 5 1, Owns.nil _, hU, fun p hp => by cases hp⟩
  refine ⟨fun h => ?_, fun h => ?_⟩
  · unfold openL
    rw [if_pos (by omega)]
    exact ⟨_, rfl, none_ w (Upd.refl w [])⟩
  have hk : ((l.length : Int) - 4).toNat = l.length - 4 := by omega
  rw [step_run (run_sliceTo u51 sz5 (by omega) (by omega)), hk]
  have hrt := hr.take (i := l.length - 4) (by omega)
  rw [Nat.mul_one, show (bytesV l).take (l.length - 4) = bytesV (l.take (l.length - 4)) by simp [bytesV, List.map_take]] at hrt
  have hlt : (l.take (l.length - 4)).length = l.length - 4 := by simp
  refine st_call (Sum_spec w _ (l.take (l.length - 4)) (by omega) (by rw [hlt]; exact hrt)) ?_
  rintro _ w1 ⟨rfl, hU1⟩
  have hn := more_lt 0 (l.take (l.length - 4))
  generalize hN : more 0 (l.take (l.length - 4)) = n at hn
  refine st_loop (fun vs w' => ∃ i : Nat, i ≤ 4 ∧ vs.getD 3 undef = .int .i64 i ∧ Upd w w' [] ∧ ∀ j, j < i → l[l.length - 4 + j]? = (le4 n)[j]?) (fun vs _ => 4 - (intOf (vs.getD 3 undef)).toNat) ⟨0, by omega, rfl, hU1, fun j hj => by omega⟩ ?_
  rintro dv vs w2 - ⟨i, hi, e3, hU2, hall⟩
  simp (disch := omega) only [e3, PX, BX]
  refine ⟨fun hlt4 => ?_, fun hge => ?_⟩
  · have hi4 : i < 4 := by omega
    have hj : l.length - 4 + i < l.length := by omega
    have hne : ∃ w', (fun w' => Upd w w' []) w' := ⟨w, Upd.refl w []⟩
    refine st_draw (fun w' => Upd w w' []) (hU2.trans (Upd.drew w2 [])) ?_
    simp (disch := first | exact hne | omega) only [SX, w64]
    obtain ⟨a, rfl, hca⟩ := hcell (l.length - 4 + i) (.int .u8 l[l.length - 4 + i].toNat) (by simp [bytesV, hj])
    rw [stepS_run hne fun w' hw => run_idxS u51 sz5 (by omega) (by omega)]
    have hld : ∀ w', Upd w w' [] → (sLoad 5 (.pointer (some (a.add (((l.length : Int) - 4 + i).toNat * 1))))).run Try.prog w' = .ok (.value (.int .u8 l[l.length - 4 + i].toNat)) w' := fun w' hw => run_sLoad (run_loadVar1 ag5 (by
      rw [show ((l.length : Int) - 4 + i).toNat * 1 = l.length - 4 + i by omega, hw.cell (World.block_lt_of_cell? w _ hca) (by simp)]; exact hca))
    rw [stepS_run hne hld]
    simp (disch := first | exact hne | omega) only [SX, w64]
    have hs : Int.fdiv (n : Int) (2 ^ (min (Int.toNat (8 * (i : Int))) (IntKind.bits .u32))) = ((n / 2 ^ (8 * i) : Nat) : Int) := by
      have := shr_u32 n (8 * i) (by omega)
      rwa [show ((8 * i : Nat) : Int) = 8 * (i : Int) by omega] at this
    rw [hs, wrap_u8, bool_dec]
    have hq := le4_at n i hi4
    refine ⟨fun hd => ?_, fun he => ?_⟩
    · unfold openL
      rw [if_neg (by omega), hN, if_neg]
      · exact ⟨_, rfl, none_ _ (hU2.trans (Upd.drew w2 []))⟩
      · intro hx
        have h1 : (l.drop (l.length - 4))[i]? = (le4 n)[i]? := by rw [hx]
        rw [List.getElem?_drop, List.getElem?_eq_getElem hj, hq] at h1
        injection h1 with h1
        apply hd
        rw [h1, ofNat_toNat]
    · refine ⟨⟨i + 1, by omega, rfl, hU2.trans (Upd.drew w2 []), fun j hjl => ?_⟩, ?_⟩
      · by_cases h2 : j < i
        · exact hall j h2
        · obtain rfl : j = i := by omega
          rw [List.getElem?_eq_getElem hj, hq]
          have he' : (l[l.length - 4 + j].toNat : Int) = ((n / 2 ^ (8 * j) % 256 : Nat) : Int) := by omega
          congr 1
          apply UInt8.toNat_inj.1
          rw [ofNat_toNat]
          omega
      · simp only [List.getD_cons_succ, List.getD_cons_zero, intOf]; omega
  · obtain rfl : i = 4 := by omega
    have hok : l.drop (l.length - 4) = le4 n := four_eq _ _ rfl (by simp; omega) fun i hi => by rw [List.getElem?_drop]; exact hall i hi
    unfold crc_Open_k1 openL
    rw [if_neg (by omega), hN, if_pos hok]
    refine st_newRow empty_row hU2 (Owns.nil w2) ?_
    intro g w3 hU3 hO3 hg
    rw [step_run (run_sliceTo u51 sz5 (by omega) (by omega)), hk]
    refine st_app (F := []) (a := []) (row0 g) hO3 hU3 (fun p hp => by simp at hp; subst hp; exact .inr hg) (hrt.mono hU3) (by omega) ?_
    intro v4 w4 h4 hr4 hO4 hU4 hh4
    refine ⟨v4, rfl, h4, ?_, by simpa using hO4, hU4, fun p hp => (hh4 p hp).resolve_left (by simp)⟩
    rw [hlt]
    simpa using hr4

end Go.Proofs.Ytplpjikcgheiiaa.Crc

/- Records: what stands in them, when they may be, how they lie in memory. -/
namespace Go.Proofs.Ytplpjikcgheiiaa.Rec
open Go Go.Proofs.Ytplpjikcgheiiaa Xf Go.RowKit
set_option linter.unusedVariables false
set_option linter.unusedSimpArgs false
set_option maxRecDepth 100000

theorem bd {p q : Prop} [Decidable p] [Decidable q] (h : p ↔ q) : Value.bool (decide p) = .bool (decide q) := by simp [h]
theorem bt {p : Prop} [Decidable p] (h : p) : Value.bool true = .bool (decide p) := by simp [h]
theorem bf {p : Prop} [Decidable p] (h : ¬ p) : Value.bool false = .bool (decide p) := by simp [h]
theorem mk_nil {l : List UInt8} : ((⟨l.toArray⟩ : ByteArray) = ⟨#[]⟩) = (l = []) := by
  rw [show (⟨#[]⟩ : ByteArray) = ⟨([] : List UInt8).toArray⟩ from rfl, mk_inj]
theorem w64 {a : Int} (h0 : -9223372036854775808 ≤ a) (h1 : a < 9223372036854775808) : IntKind.wrap .i64 a = a := by
  rw [IntKind.wrap_i64]; omega

structure Tx where
  id : Int
  st : Int
  last : Nat
  deriving DecidableEq
structure Di where
  page : Int
  rc : Nat
  deriving DecidableEq
structure Re where
  kind : Int
  lsn : Nat
  txn : Int
  prev : Nat
  undo : Nat
  page : Int
  ak : Int
  key : List UInt8
  old : List UInt8
  new : List UInt8
  ts : List Tx
  ds : List Di
  deriving DecidableEq
def txV (t : Tx) : List Value := [.int .i64 t.id, .int .i64 t.st, .int .u64 (t.last : Nat)]
def diV (d : Di) : List Value := [.int .i64 d.page, .int .u64 (d.rc : Nat)]
def acV (k : Int) (a b c : List UInt8) : List Value := [.int .i64 k, .string ⟨a.toArray⟩, .string ⟨b.toArray⟩, .string ⟨c.toArray⟩]
def reV (r : Re) (vt vd : Value) : List Value := [.int .i64 r.kind, .int .u64 (r.lsn : Nat), .int .i64 r.txn, .int .u64 (r.prev : Nat), .int .u64 (r.undo : Nat), .int .i64 r.page,
  .int .i64 r.ak, .string ⟨r.key.toArray⟩, .string ⟨r.old.toArray⟩, .string ⟨r.new.toArray⟩, vt, vd]
def re0 : Re := ⟨0, 0, 0, 0, 0, 0, 0, [], [], [], [], []⟩
/-- a value reads a record -/
def RdRe (w : World) (v : Value) (r : Re) : Prop := ∃ vt vd, v = .agg (reV r vt vd).toArray ∧ RdS w txV 3 vt r.ts ∧ RdS w diV 2 vd r.ds
theorem RdRe.mono {w w' : World} {v : Value} {r : Re} (h : RdRe w v r) (hU : Upd w w' []) : RdRe w' v r := by
  obtain ⟨a, b, h1, h2, h3⟩ := h
  exact ⟨a, b, h1, h2.mono hU, h3.mono hU⟩

def numP (n : Nat) : Prop := 16 ≤ n ∧ n ≤ 1152921504606846991
instance (n : Nat) : Decidable (numP n) := by unfold numP; infer_instance
def pageP (p : Int) : Prop := 0 ≤ p ∧ p < 16
instance (n : Int) : Decidable (pageP n) := by unfold pageP; infer_instance
def txnP (t : Int) : Prop := 1 ≤ t ∧ t ≤ 1073741824
instance (n : Int) : Decidable (txnP n) := by unfold txnP; infer_instance
def actP (k : Int) (key old new : List UInt8) : Prop := 1 ≤ key.length ∧ key.length ≤ 16 ∧ old.length ≤ 32 ∧ new.length ≤ 32 ∧ ((k = 1 ∧ old = []) ∨ k = 2 ∨ (k = 3 ∧ new = []))
instance (k : Int) (a b c : List UInt8) : Decidable (actP k a b c) := by unfold actP; infer_instance
def chgP (k : Int) : Prop := k = 1 ∨ k = 2
instance (k : Int) : Decidable (chgP k) := by unfold chgP; infer_instance
def ptP (k : Int) : Prop := k = 7 ∨ k = 8
instance (k : Int) : Decidable (ptP k) := by unfold ptP; infer_instance
def txP (t : Tx) : Prop := txnP t.id ∧ 0 ≤ t.st ∧ t.st < 3 ∧ numP t.last
instance (t : Tx) : Decidable (txP t) := by unfold txP; infer_instance
def diP (d : Di) : Prop := pageP d.page ∧ numP d.rc
instance (d : Di) : Decidable (diP d) := by unfold diP; infer_instance
/-- each place of a list is right, seen with the one ahead of it -/
def upP {α : Type} (ok : α → Prop) (key : α → Int) (n : Nat) (l : List α) : Prop := ∀ i, i < n → ∀ x, l[i]? = some x → ok x ∧ ∀ y, 0 < i → l[i - 1]? = some y → key y < key x
def tabP (r : Re) : Prop := r.ts.length ≤ 64 ∧ r.ds.length ≤ 16 ∧ upP txP Tx.id r.ts.length r.ts ∧ upP diP Di.page r.ds.length r.ds
def okP (r : Re) : Prop := 0 < r.kind ∧ r.kind < 9 ∧ numP r.lsn ∧ r.prev < r.lsn ∧ r.undo < r.lsn ∧
  (if chgP r.kind then pageP r.page ∧ actP r.ak r.key r.old r.new else r.page = 0 ∧ r.ak = 0 ∧ r.key = [] ∧ r.old = [] ∧ r.new = []) ∧
  (if ptP r.kind then r.txn = 0 ∧ r.prev = 0 else txnP r.txn) ∧ (r.kind ≠ 8 → r.ts = [] ∧ r.ds = []) ∧ (r.kind ≠ 2 → r.undo = 0) ∧ tabP r
theorem upP_succ {α : Type} {ok : α → Prop} {key : α → Int} {n : Nat} {l : List α} (hn : n < l.length) : upP ok key (n + 1) l ↔ upP ok key n l ∧ ok l[n] ∧ ∀ h : 0 < n, key (l[n - 1]'(by omega)) < key l[n] := by
  constructor
  · intro h
    refine ⟨fun i hi => h i (by omega), ?_⟩
    obtain ⟨h1, h2⟩ := h n (by omega) _ (List.getElem?_eq_getElem hn)
    exact ⟨h1, fun h0 => h2 _ h0 (List.getElem?_eq_getElem (by omega))⟩
  · rintro ⟨h1, h2, h3⟩ i hi x hx
    by_cases h : i < n
    · exact h1 i h x hx
    · obtain rfl : i = n := by omega
      rw [List.getElem?_eq_getElem hn] at hx
      injection hx with hx
      subst hx
      refine ⟨h2, fun y h0 hy => ?_⟩
      rw [List.getElem?_eq_getElem (by omega)] at hy
      injection hy with hy
      subst hy
      exact h3 h0
theorem upP_of {α : Type} {ok : α → Prop} {key : α → Int} {n m : Nat} {l : List α} (h : upP ok key n l) (hm : m ≤ n) : upP ok key m l := fun i hi => h i (by omega)

/-! structs are the same -/
theorem eqF_tx (a b : Tx) (w : World) : (eqF3 9999 (txV a).toArray (txV b).toArray [(true, 3, 0), (true, 134, 1), (true, 34, 2)]).run Try.prog w = .ok (decide (a = b)) w := by
  have p0 : ∀ f : Tx, (part 3 (txV f).toArray 0).run Try.prog w = .ok (.int .i64 f.id) w := fun f => by kernel_rfl
  have p1 : ∀ f : Tx, (part 134 (txV f).toArray 1).run Try.prog w = .ok (.int .i64 f.st) w := fun f => by kernel_rfl
  have p2 : ∀ f : Tx, (part 34 (txV f).toArray 2).run Try.prog w = .ok (.int .u64 (f.last : Nat)) w := fun f => by kernel_rfl
  have e0 : ∀ x y : Int, (Op.equalIn 9999 3 (.int .i64 x) (.int .i64 y)).run Try.prog w = .ok (x == y) w := fun x y => run_equalIn_int w 9998 3 .i64 .i64 x y u3
  have e1 : ∀ x y : Int, (Op.equalIn 9999 134 (.int .i64 x) (.int .i64 y)).run Try.prog w = .ok (x == y) w := fun x y => run_equalIn_int w 9998 134 .i64 .i64 x y u134
  have e2 : ∀ x y : Nat, (Op.equalIn 9999 34 (.int .u64 (x : Nat)) (.int .u64 (y : Nat))).run Try.prog w = .ok (decide (x = y)) w := fun x y => by rw [run_equalIn_int w 9998 34 .u64 .u64 x y u34]; congr 1; by_cases h : x = y <;> simp [h]; omega
  simp only [eqF3, Sem.run_bind, p0, p1, p2, e0, e1, e2, Result.andThen_ok]
  obtain ⟨a0, a1, a2⟩ := a
  obtain ⟨b0, b1, b2⟩ := b
  simp only [Tx.mk.injEq]
  by_cases h0 : a0 = b0 <;> by_cases h1 : a1 = b1 <;> by_cases h2 : a2 = b2 <;> simp [h0, h1, h2, Sem.run_bind, e1, p0, p1, p2, e0, e2]
theorem tx_eq (a b : Tx) (w : World) : (∀ x y : Operand, (sBin .eql 136 x y (.agg (txV a).toArray) (.agg (txV b).toArray)).run Try.prog w = .ok (.value (.bool (decide (a = b)))) w) ∧ (∀ x y : Operand, (sBin .neq 136 x y (.agg (txV a).toArray) (.agg (txV b).toArray)).run Try.prog w = .ok (.value (.bool (!decide (a = b)))) w) :=
  run_eqS (l := [(true, 3, 0), (true, 134, 1), (true, 34, 2)]) (by kernel_rfl) (by kernel_rfl) (by kernel_rfl) (by kernel_rfl) (eqF_tx a b w)
theorem eqF_di (a b : Di) (w : World) : (eqF3 9999 (diV a).toArray (diV b).toArray [(true, 3, 0), (true, 34, 1)]).run Try.prog w = .ok (decide (a = b)) w := by
  have p0 : ∀ f : Di, (part 3 (diV f).toArray 0).run Try.prog w = .ok (.int .i64 f.page) w := fun f => by kernel_rfl
  have p2 : ∀ f : Di, (part 34 (diV f).toArray 1).run Try.prog w = .ok (.int .u64 (f.rc : Nat)) w := fun f => by kernel_rfl
  have e0 : ∀ x y : Int, (Op.equalIn 9999 3 (.int .i64 x) (.int .i64 y)).run Try.prog w = .ok (x == y) w := fun x y => run_equalIn_int w 9998 3 .i64 .i64 x y u3
  have e2 : ∀ x y : Nat, (Op.equalIn 9999 34 (.int .u64 (x : Nat)) (.int .u64 (y : Nat))).run Try.prog w = .ok (decide (x = y)) w := fun x y => by rw [run_equalIn_int w 9998 34 .u64 .u64 x y u34]; congr 1; by_cases h : x = y <;> simp [h]; omega
  simp only [eqF3, Sem.run_bind, p0, p2, e0, e2, Result.andThen_ok]
  obtain ⟨a0, a2⟩ := a
  obtain ⟨b0, b2⟩ := b
  simp only [Di.mk.injEq]
  by_cases h0 : a0 = b0 <;> by_cases h2 : a2 = b2 <;> simp [h0, h2, Sem.run_bind, p0, p2, e0, e2]
theorem di_eq (a b : Di) (w : World) : (∀ x y : Operand, (sBin .eql 138 x y (.agg (diV a).toArray) (.agg (diV b).toArray)).run Try.prog w = .ok (.value (.bool (decide (a = b)))) w) ∧ (∀ x y : Operand, (sBin .neq 138 x y (.agg (diV a).toArray) (.agg (diV b).toArray)).run Try.prog w = .ok (.value (.bool (!decide (a = b)))) w) :=
  run_eqS (l := [(true, 3, 0), (true, 34, 1)]) (by kernel_rfl) (by kernel_rfl) (by kernel_rfl) (by kernel_rfl) (eqF_di a b w)
theorem ba_eq (a b : List UInt8) : ((⟨a.toArray⟩ : ByteArray).toList == (⟨b.toArray⟩ : ByteArray).toList) = decide (a = b) := by
  by_cases h : a = b
  · subst h; simp
  · have : (⟨a.toArray⟩ : ByteArray).toList ≠ (⟨b.toArray⟩ : ByteArray).toList := by
      intro he
      apply h
      have h1 : ∀ l : List UInt8, (⟨l.toArray⟩ : ByteArray).toList = l := fun l => by rw [ByteArray.toList_eq]
      rw [h1, h1] at he; exact he
    simp [this, h]
theorem eqF_ac (k1 k2 : Int) (a1 b1 c1 a2 b2 c2 : List UInt8) (w : World) : (eqF3 9999 (acV k1 a1 b1 c1).toArray (acV k2 a2 b2 c2).toArray [(true, 35, 0), (true, 9, 1), (true, 9, 2), (true, 9, 3)]).run Try.prog w = .ok (decide (k1 = k2 ∧ a1 = a2 ∧ b1 = b2 ∧ c1 = c2)) w := by
  have p0 : ∀ k a b c, (part 35 (acV k a b c).toArray 0).run Try.prog w = .ok (.int .i64 k) w := fun _ _ _ _ => by kernel_rfl
  have p1 : ∀ k a b c, (part 9 (acV k a b c).toArray 1).run Try.prog w = .ok (.string ⟨a.toArray⟩) w := fun _ _ _ _ => by kernel_rfl
  have p2 : ∀ k a b c, (part 9 (acV k a b c).toArray 2).run Try.prog w = .ok (.string ⟨b.toArray⟩) w := fun _ _ _ _ => by kernel_rfl
  have p3 : ∀ k a b c, (part 9 (acV k a b c).toArray 3).run Try.prog w = .ok (.string ⟨c.toArray⟩) w := fun _ _ _ _ => by kernel_rfl
  have e0 : ∀ x y : Int, (Op.equalIn 9999 35 (.int .i64 x) (.int .i64 y)).run Try.prog w = .ok (x == y) w := fun x y => run_equalIn_int w 9998 35 .i64 .i64 x y u35
  have e1 : ∀ x y : List UInt8, (Op.equalIn 9999 9 (.string ⟨x.toArray⟩) (.string ⟨y.toArray⟩)).run Try.prog w = .ok (decide (x = y)) w := fun x y => by rw [run_equalIn_string w 9998 9 _ _ u9, ba_eq]
  simp only [eqF3, Sem.run_bind, p0, p1, p2, p3, e0, e1, Result.andThen_ok]
  by_cases h0 : k1 = k2 <;> by_cases h1 : a1 = a2 <;> by_cases h2 : b1 = b2 <;> by_cases h3 : c1 = c2 <;> simp [h0, h1, h2, h3, Sem.run_bind, e1, p0, p1, p2, p3, e0]
theorem ac_eq (k1 k2 : Int) (a1 b1 c1 a2 b2 c2 : List UInt8) (w : World) : (∀ x y : Operand, (sBin .eql 37 x y (.agg (acV k1 a1 b1 c1).toArray) (.agg (acV k2 a2 b2 c2).toArray)).run Try.prog w = .ok (.value (.bool (decide (k1 = k2 ∧ a1 = a2 ∧ b1 = b2 ∧ c1 = c2)))) w) ∧
    (∀ x y : Operand, (sBin .neq 37 x y (.agg (acV k1 a1 b1 c1).toArray) (.agg (acV k2 a2 b2 c2).toArray)).run Try.prog w = .ok (.value (.bool (!decide (k1 = k2 ∧ a1 = a2 ∧ b1 = b2 ∧ c1 = c2)))) w) :=
  run_eqS (l := [(true, 35, 0), (true, 9, 1), (true, 9, 2), (true, 9, 3)]) (by kernel_rfl) (by kernel_rfl) (by kernel_rfl) (by kernel_rfl) (eqF_ac k1 k2 a1 b1 c1 a2 b2 c2 w)
structure At (w : World) (g : Nat) (r : Re) (vt vd : Value) : Prop where
  c0 : w.cell? ⟨g, 0, none⟩ = some (.int .i64 r.kind)
  c1 : w.cell? ⟨g, 1, none⟩ = some (.int .u64 (r.lsn : Nat))
  c2 : w.cell? ⟨g, 2, none⟩ = some (.int .i64 r.txn)
  c3 : w.cell? ⟨g, 3, none⟩ = some (.int .u64 (r.prev : Nat))
  c4 : w.cell? ⟨g, 4, none⟩ = some (.int .u64 (r.undo : Nat))
  c5 : w.cell? ⟨g, 5, none⟩ = some (.int .i64 r.page)
  c6 : w.cell? ⟨g, 6, none⟩ = some (.int .i64 r.ak)
  c7 : w.cell? ⟨g, 7, none⟩ = some (.string ⟨r.key.toArray⟩)
  c8 : w.cell? ⟨g, 8, none⟩ = some (.string ⟨r.old.toArray⟩)
  c9 : w.cell? ⟨g, 9, none⟩ = some (.string ⟨r.new.toArray⟩)
  c10 : w.cell? ⟨g, 10, none⟩ = some vt
  c11 : w.cell? ⟨g, 11, none⟩ = some vd
abbrev reO (r : Re) (vt vd : Value) : Obj := .cells (reV r vt vd).toArray 41 (0, 0)
theorem At.of {w : World} {g : Nat} {r : Re} {vt vd : Value} (h : w.heap[g]? = some (reO r vt vd)) : At w g r vt vd :=
  ⟨cell_at h, cell_at h, cell_at h, cell_at h, cell_at h, cell_at h, cell_at h, cell_at h, cell_at h, cell_at h, cell_at h, cell_at h⟩
theorem run_re {w : World} {g : Nat} {r : Re} {vt vd : Value} (h : w.heap[g]? = some (reO r vt vd)) : (sLoad 41 (.pointer (some ⟨g, 0, none⟩))).run Try.prog w = .ok (.value (.agg (reV r vt vd).toArray)) w :=
  run_sLoad (run_loadVarN (cs := reV r vt vd) ag41 (by rw [sz41]; rfl) (cells_read h))
theorem run_ac {w : World} {g : Nat} {r : Re} {vt vd : Value} (h : w.heap[g]? = some (reO r vt vd)) : (sLoad 37 (.pointer (some ⟨g, 6, none⟩))).run Try.prog w = .ok (.value (.agg (acV r.ak r.key r.old r.new).toArray)) w := by
  refine run_sLoad (run_loadVarN (cs := acV r.ak r.key r.old r.new) ag37 (by rw [sz37]; rfl) fun j v hj => ?_)
  rw [add_mk, cell_at h]
  match j, hj with
  | 0, hj => exact hj
  | 1, hj => exact hj
  | 2, hj => exact hj
  | 3, hj => exact hj
  | n + 4, hj => simp [acV] at hj
/-- one of the structs of a slice, in a later world -/
theorem row_at {α : Type} {w : World} {A : Option Addr} {n c k : Nat} {f : α → List Value} {l : List α} (hf : ∀ x, (f x).length = k) (hk : 0 < k) (hr : Rd w k (.slice A n c) n (l.flatMap f)) {i : Nat} (hi : i < l.length) :
    ∃ a, A = some a ∧ ∀ w', Upd w w' [] → ∀ j u, (f l[i])[j]? = some u → w'.cell? ((a.add (i * k)).add j) = some u := by
  obtain ⟨a, ha, h⟩ := Rd.row hf hk hr hi
  refine ⟨a, ha, fun w' hU j u hu => ?_⟩
  have := h w' hU j u hu
  rw [show ((i : Nat) : Int).toNat = i by omega] at this
  rw [add_add']; exact this
theorem run_tx {w : World} {a : Addr} {t : Tx} (h : ∀ j u, (txV t)[j]? = some u → w.cell? (a.add j) = some u) : (sLoad 136 (.pointer (some a))).run Try.prog w = .ok (.value (.agg (txV t).toArray)) w :=
  run_sLoad (run_loadVarN (cs := txV t) ag136 (by rw [sz136]; rfl) h)
theorem run_di {w : World} {a : Addr} {t : Di} (h : ∀ j u, (diV t)[j]? = some u → w.cell? (a.add j) = some u) : (sLoad 138 (.pointer (some a))).run Try.prog w = .ok (.value (.agg (diV t).toArray)) w :=
  run_sLoad (run_loadVarN (cs := diV t) ag138 (by rw [sz138]; rfl) h)
abbrev txO (t : Tx) : Obj := .cells (txV t).toArray 136 (0, 0)
abbrev diO (t : Di) : Obj := .cells (diV t).toArray 138 (0, 0)
/-- a row into a new variable -/
theorem st_tx {w W : World} {h : List (Nat × Obj)} {K : Value → World → Prop} (hU : Upd W w []) (hO : Owns w h) (i : Nat) {g : Nat} {x y z : Value} {t : Tx} (hi : h[i]? = some (g, .cells #[x, y, z] 136 (0, 0))) (hg : W.heap.size ≤ g)
    (hk : ∀ w', Upd W w' [] → Owns w' (h.set i (g, txO t)) → K undef w') : (std Try.prog).step (sStore 136 (.pointer (some ⟨g, 0, none⟩)) (.agg (txV t).toArray)) w K := by
  refine st_storeN (vs := txV t) (by rw [sz136]; rfl) hU hO i hi (by simp [txV]) (by intro u hu; simp [txV] at hu; rcases hu with rfl | rfl | rfl <;> rfl) (.inr hg) ?_
  exact fun w' hU' hO' => hk w' hU' hO'
theorem st_di {w W : World} {h : List (Nat × Obj)} {K : Value → World → Prop} (hU : Upd W w []) (hO : Owns w h) (i : Nat) {g : Nat} {x y : Value} {t : Di} (hi : h[i]? = some (g, .cells #[x, y] 138 (0, 0))) (hg : W.heap.size ≤ g)
    (hk : ∀ w', Upd W w' [] → Owns w' (h.set i (g, diO t)) → K undef w') : (std Try.prog).step (sStore 138 (.pointer (some ⟨g, 0, none⟩)) (.agg (diV t).toArray)) w K := by
  refine st_storeN (vs := diV t) (by rw [sz138]; rfl) hU hO i hi (by simp [diV]) (by intro u hu; simp [diV] at hu; rcases hu with rfl | rfl <;> rfl) (.inr hg) ?_
  exact fun w' hU' hO' => hk w' hU' hO'
end Go.Proofs.Ytplpjikcgheiiaa.Rec

/- When a record may be: what the code answers. -/
namespace Go.Proofs.Ytplpjikcgheiiaa.Rec
open Go Go.Proofs.Ytplpjikcgheiiaa Xf Go.RowKit
set_option linter.unusedVariables false
set_option linter.unusedSimpArgs false
set_option maxRecDepth 100000
noncomputable instance (r : Re) : Decidable (tabP r) := Classical.propDecidable _
noncomputable instance (r : Re) : Decidable (okP r) := Classical.propDecidable _

theorem numbered_spec (w : World) (n : Nat) : CallsR Try.prog 107 #[.int .u64 (n : Nat)] w fun r w' => r = .bool (decide (numP n)) ∧ w' = w := by
  apply rec_numbered_sound
  unfold rec_numbered_x
  simp only [PX, BX]
  exact ⟨fun h => ⟨bd (by unfold numP; omega), trivial⟩, fun h => ⟨bf (by unfold numP; omega), trivial⟩⟩
theorem page_spec (w : World) (n : Int) : CallsR Try.prog 108 #[.int .i64 n] w fun r w' => r = .bool (decide (pageP n)) ∧ w' = w := by
  apply rec_page_sound
  unfold rec_page_x
  simp only [PX, BX]
  exact ⟨fun h => ⟨bd (by unfold pageP; omega), trivial⟩, fun h => ⟨bf (by unfold pageP; omega), trivial⟩⟩
theorem txn_spec (w : World) (n : Int) : CallsR Try.prog 111 #[.int .i64 n] w fun r w' => r = .bool (decide (txnP n)) ∧ w' = w := by
  apply rec_txn_sound
  unfold rec_txn_x
  simp only [PX, BX]
  exact ⟨fun h => ⟨bd (by unfold txnP; omega), trivial⟩, fun h => ⟨bf (by unfold txnP; omega), trivial⟩⟩
theorem changes_spec (w : World) (n : Int) : CallsR Try.prog 96 #[.int .i64 n] w fun r w' => r = .bool (decide (chgP n)) ∧ w' = w := by
  apply rec_changes_sound
  unfold rec_changes_x
  simp only [PX, BX]
  exact ⟨fun h => ⟨bt (by unfold chgP; omega), trivial⟩, fun h => ⟨bd (by unfold chgP; omega), trivial⟩⟩
theorem points_spec (w : World) (n : Int) : CallsR Try.prog 110 #[.int .i64 n] w fun r w' => r = .bool (decide (ptP n)) ∧ w' = w := by
  apply rec_points_sound
  unfold rec_points_x
  simp only [PX, BX]
  exact ⟨fun h => ⟨bt (by unfold ptP; omega), trivial⟩, fun h => ⟨bd (by unfold ptP; omega), trivial⟩⟩
theorem Changes_spec (w : World) (n : Int) : CallsR Try.prog 56 #[.int .i64 n] w fun r w' => r = .bool (decide (chgP n)) ∧ w' = w := by
  apply flotillaref05_Changes_sound
  unfold flotillaref05_Changes_x
  simp only [PX, BX]
  exact ⟨fun h => ⟨bt (by unfold chgP; omega), trivial⟩, fun h => ⟨bd (by unfold chgP; omega), trivial⟩⟩
theorem Numbered_spec (w : World) (n : Nat) : CallsR Try.prog 55 #[.int .u64 (n : Nat)] w fun r w' => r = .bool (decide (numP n)) ∧ w' = w := by
  apply flotillaref05_Numbered_sound
  unfold flotillaref05_Numbered_x
  simp only [PX, BX]
  exact ⟨fun h => ⟨bd (by unfold numP; omega), trivial⟩, fun h => ⟨bf (by unfold numP; omega), trivial⟩⟩

theorem mayAct_spec (w : World) (k : Int) (a b c : List UInt8) : CallsR Try.prog 109 #[.agg (acV k a b c).toArray] w fun r w' => r = .bool (decide (actP k a b c)) ∧ Upd w w' [] := by
  apply rec_mayAct_sound
  unfold rec_mayAct_x rec_mayAct_k1
  refine st_box (Upd.refl w []) (Owns.nil w) ?_
  intro g w1 hU1 hO1 hg
  have c0 : w1.cell? ⟨g, 0, none⟩ = some (.int .i64 k) := cell_at (hO1.at_ 0 rfl)
  have c1 : w1.cell? ⟨g, 1, none⟩ = some (.string ⟨a.toArray⟩) := cell_at (hO1.at_ 0 rfl)
  have c2 : w1.cell? ⟨g, 2, none⟩ = some (.string ⟨b.toArray⟩) := cell_at (hO1.at_ 0 rfl)
  have c3 : w1.cell? ⟨g, 3, none⟩ = some (.string ⟨c.toArray⟩) := cell_at (hO1.at_ 0 rfl)
  simp (disch := first | assumption | omega) only [PX, BX, LX, add_mk, Nat.reduceAdd, size_mk, mk_nil]
  repeat' (refine ⟨?_, ?_⟩ <;> intro _)
  all_goals (refine ⟨?_, hU1⟩; first | apply bt | apply bf | apply bd) <;> unfold actP <;> grind
theorem ActMay_spec (w : World) (k : Int) (a b c : List UInt8) : CallsR Try.prog 57 #[.agg (acV k a b c).toArray] w fun r w' => r = .bool (decide (actP k a b c)) ∧ Upd w w' [] := by
  apply flotillaref05_ActMay_sound
  unfold flotillaref05_ActMay_x flotillaref05_ActMay_k1 flotillaref05_ActMay_k2 flotillaref05_ActMay_k3 flotillaref05_ActMay_k4
  refine st_box (Upd.refl w []) (Owns.nil w) ?_
  intro g w1 hU1 hO1 hg
  have c0 : w1.cell? ⟨g, 0, none⟩ = some (.int .i64 k) := cell_at (hO1.at_ 0 rfl)
  have c1 : w1.cell? ⟨g, 1, none⟩ = some (.string ⟨a.toArray⟩) := cell_at (hO1.at_ 0 rfl)
  have c2 : w1.cell? ⟨g, 2, none⟩ = some (.string ⟨b.toArray⟩) := cell_at (hO1.at_ 0 rfl)
  have c3 : w1.cell? ⟨g, 3, none⟩ = some (.string ⟨c.toArray⟩) := cell_at (hO1.at_ 0 rfl)
  simp (disch := first | assumption | omega) only [PX, BX, LX, add_mk, Nat.reduceAdd, size_mk, mk_nil]
  repeat' (refine ⟨?_, ?_⟩ <;> intro _)
  all_goals (refine ⟨?_, hU1⟩; first | apply bt | apply bf | apply bd) <;> unfold actP <;> grind
end Go.Proofs.Ytplpjikcgheiiaa.Rec

/- A checkpoint's rows. -/
namespace Go.Proofs.Ytplpjikcgheiiaa.Rec
open Go Go.Proofs.Ytplpjikcgheiiaa Xf Go.RowKit
set_option linter.unusedVariables false
set_option linter.unusedSimpArgs false
set_option maxRecDepth 100000

theorem tabP_bad {r : Re} {b : Bool} (h : ¬ tabP r) : Value.bool false = .bool (decide (tabP r)) := bf h
theorem tables_spec (w : World) (v : Value) (r : Re) (h : RdRe w v r) : CallsR Try.prog 112 #[v] w fun u w' => u = .bool (decide (tabP r)) ∧ Upd w w' [] := by
  obtain ⟨vt, vd, rfl, ⟨At', ct, rfl, hmt, ht⟩, ⟨Ad, cd, rfl, hmd, hd⟩⟩ := h
  apply rec_tables_sound
  unfold rec_tables_x
  refine st_box (Upd.refl w []) (Owns.nil w) ?_
  intro g w1 hU1 hO1 hg
  have hO1 : Owns w1 [(g, reO r (.slice At' r.ts.length ct) (.slice Ad r.ds.length cd))] := hO1
  obtain ⟨c0, c1, c2, c3, c4, c5, c6, c7, c8, c9, c10, c11⟩ := At.of (hO1.at_ 0 rfl)
  simp (disch := first | assumption | omega) only [PX, BX, LX, add_mk, Nat.reduceAdd]
  refine ⟨fun h => ⟨bf fun hp => by have := hp.1; omega, hU1⟩, fun hl1 => ⟨fun h => ⟨bf fun hp => by have := hp.2.1; omega, hU1⟩, fun hl2 => ?_⟩⟩
  clear c0 c1 c2 c3 c4 c5 c6 c7 c8 c9 c10 c11
  refine st_loop (fun vs w' => ∃ i : Nat, i ≤ r.ts.length ∧ vs.getD 0 undef = .int .i64 i ∧ Upd w w' [] ∧ Owns w' [(g, reO r (.slice At' r.ts.length ct) (.slice Ad r.ds.length cd))] ∧ upP txP Tx.id i r.ts) (fun vs _ => r.ts.length - (intOf (vs.getD 0 undef)).toNat) ⟨0, by omega, rfl, hU1, hO1, fun i hi => by omega⟩ ?_
  clear hU1 hO1
  rintro dv vs w2 - ⟨i, hi, e0, hU2, hO2, hup⟩
  simp (disch := omega) only [e0, PX, BX]
  refine ⟨fun hlt => ?_, fun hge => ?_⟩
  · have hi' : i < r.ts.length := by omega
    obtain ⟨a, rfl, hc⟩ := row_at (f := txV) (k := 3) (fun _ => rfl) (by omega) ht hi'
    simp (disch := omega) only [PX]
    rw [step_run (run_tx (hc w2 hU2))]
    refine st_alloc ze136 hU2 hO2 ?_
    intro g3 w3 hU3 hO3 hg3
    refine st_tx hU3 hO3 0 rfl hg3 ?_
    intro w4 hU4 hO4
    clear hU3 hO3 hU2 hO2
    let H := [(g3, txO r.ts[i]), (g, reO r (.slice (some a) r.ts.length ct) (.slice Ad r.ds.length cd))]
    have hO4 : Owns w4 H := hO4
    have hS : SU w H w4.drew := SU.drew hU4 hO4
    have hne : ∃ w', SU w H w' := ⟨_, hS⟩
    refine st_draw (SU w H) hS ?_
    have t0 : ∀ w', SU w H w' → w'.cell? ⟨g3, 0, none⟩ = some (.int .i64 r.ts[i].id) := fun w' h => cell_at (h.2.at_ 0 rfl)
    have t1 : ∀ w', SU w H w' → w'.cell? ⟨g3, 1, none⟩ = some (.int .i64 r.ts[i].st) := fun w' h => cell_at (h.2.at_ 0 rfl)
    have t2 : ∀ w', SU w H w' → w'.cell? ⟨g3, 2, none⟩ = some (.int .u64 (r.ts[i].last : Nat)) := fun w' h => cell_at (h.2.at_ 0 rfl)
    have d10 : ∀ w', SU w H w' → w'.cell? ⟨g, 10, none⟩ = some (.slice (some a) r.ts.length ct) := fun w' h => cell_at (h.2.at_ 1 rfl)
    simp (disch := first | assumption | omega) only [SX, SLX, add_mk, Nat.reduceAdd]
    refine st_call (txn_spec _ _) ?_
    rintro _ w5 ⟨rfl, rfl⟩
    refine st_keepT (SU w H) hS ?_
    simp (disch := first | assumption | omega) only [SX, SLX, BX, add_mk, Nat.reduceAdd]
    have hn := upP_succ (ok := txP) (key := Tx.id) hi'
    have bad : ¬ (upP txP Tx.id (i + 1) r.ts) → ¬ tabP r := fun h hp => h (upP_of hp.2.2.1 (by omega))
    have go : upP txP Tx.id (i + 1) r.ts → rec_tables_k5 (std Try.prog) vs (fun vs' w' => (∃ i : Nat, i ≤ r.ts.length ∧ vs'.getD 0 undef = .int .i64 i ∧ Upd w w' [] ∧ Owns w' [(g, reO r (.slice (some a) r.ts.length ct) (.slice Ad r.ds.length cd))] ∧ upP txP Tx.id i r.ts) ∧ r.ts.length - (intOf (vs'.getD 0 undef)).toNat < r.ts.length - (intOf (Value.int .i64 (i : Nat))).toNat) w4.drew fun u w' => u = .bool (decide (tabP r)) ∧ Upd w w' [] := by
      intro hup'
      unfold rec_tables_k5
      simp (disch := omega) only [e0, PX, w64]
      refine ⟨⟨i + 1, by omega, rfl, hS.1, hS.2.sub (.cons _ (List.Sublist.refl _)), hup'⟩, ?_⟩
      simp only [List.getD_cons_zero, intOf]; omega
    have badQ : ¬ (upP txP Tx.id (i + 1) r.ts) → rec_tables_k6 (std Try.prog) w4.drew fun u w' => u = .bool (decide (tabP r)) ∧ Upd w w' [] := fun h => ⟨bf (bad h), hS.1⟩
    refine ⟨fun h1 => ⟨fun h => badQ fun hp => ?_, fun h2 => ⟨fun h => badQ fun hp => ?_, fun h3 => ?_⟩⟩, fun h => badQ fun hp => ?_⟩
    · have := (hn.1 hp).2.1.2.1; omega
    · have := (hn.1 hp).2.1.2.2.1; omega
    · refine st_call (numbered_spec _ _) ?_
      rintro _ w5 ⟨rfl, rfl⟩
      refine st_keepT (SU w H) hS ?_
      simp (disch := first | assumption | omega) only [SX, SLX, BX, add_mk, Nat.reduceAdd, w64]
      refine ⟨fun h4 => ⟨fun h5 => ?_, fun h5 => ?_⟩, fun h => badQ fun hp => h (hn.1 hp).2.1.2.2.2⟩
      · obtain ⟨a', ha', hc'⟩ := row_at (f := txV) (k := 3) (fun _ => rfl) (by omega) ht (i := i - 1) (by omega)
        injection ha' with ha'
        subst ha'
        rw [show ((i : Nat) : Int) - 1 = ((i - 1 : Nat) : Int) by omega]
        have dp : ∀ w', SU w H w' → w'.cell? (a.add ((i - 1) * 3)) = some (.int .i64 r.ts[i - 1].id) := fun w' h => hc' w' h.1 0 _ rfl
        simp (disch := first | assumption | omega) only [SX, SLX, BX, add_mk, Nat.reduceAdd]
        refine ⟨fun h => ⟨bf (bad fun hp => ?_), hS.1⟩, fun h => go (hn.2 ⟨hup, ⟨h1, by omega, by omega, h4⟩, fun _ => by omega⟩)⟩
        have := (hn.1 hp).2.2 (by omega); omega
      · exact go (hn.2 ⟨hup, ⟨h1, by omega, by omega, h4⟩, fun _ => by omega⟩)
    · exact h (hn.1 hp).2.1.1
  · obtain rfl : i = r.ts.length := by omega
    unfold rec_tables_k1
    obtain ⟨c0, c1, c2, c3, c4, c5, c6, c7, c8, c9, c10, c11⟩ := At.of (hO2.at_ 0 rfl)
    simp (disch := first | assumption | omega) only [PX, BX, LX, add_mk, Nat.reduceAdd]
    clear c0 c1 c2 c3 c4 c5 c6 c7 c8 c9 c10 c11 e0
    have htx := hup
    clear hup
    refine st_loop (fun vs w' => ∃ i : Nat, i ≤ r.ds.length ∧ vs.getD 0 undef = .int .i64 i ∧ Upd w w' [] ∧ Owns w' [(g, reO r (.slice At' r.ts.length ct) (.slice Ad r.ds.length cd))] ∧ upP diP Di.page i r.ds) (fun vs _ => r.ds.length - (intOf (vs.getD 0 undef)).toNat) ⟨0, by omega, rfl, hU2, hO2, fun i hi => by omega⟩ ?_
    clear hU2 hO2 dv vs
    rintro dv vs w2 - ⟨i, hi, e0, hU2, hO2, hup⟩
    simp (disch := omega) only [e0, PX, BX]
    refine ⟨fun hlt => ?_, fun hge => ?_⟩
    · have hi' : i < r.ds.length := by omega
      obtain ⟨a, rfl, hc⟩ := row_at (f := diV) (k := 2) (fun _ => rfl) (by omega) hd hi'
      simp (disch := omega) only [PX]
      rw [step_run (run_di (hc w2 hU2))]
      refine st_alloc ze138 hU2 hO2 ?_
      intro g3 w3 hU3 hO3 hg3
      refine st_di hU3 hO3 0 rfl hg3 ?_
      intro w4 hU4 hO4
      clear hU3 hO3 hU2 hO2
      let H := [(g3, diO r.ds[i]), (g, reO r (.slice At' r.ts.length ct) (.slice (some a) r.ds.length cd))]
      have hO4 : Owns w4 H := hO4
      have hS : SU w H w4.drew := SU.drew hU4 hO4
      have hne : ∃ w', SU w H w' := ⟨_, hS⟩
      refine st_draw (SU w H) hS ?_
      have t0 : ∀ w', SU w H w' → w'.cell? ⟨g3, 0, none⟩ = some (.int .i64 r.ds[i].page) := fun w' h => cell_at (h.2.at_ 0 rfl)
      have t1 : ∀ w', SU w H w' → w'.cell? ⟨g3, 1, none⟩ = some (.int .u64 (r.ds[i].rc : Nat)) := fun w' h => cell_at (h.2.at_ 0 rfl)
      have d10 : ∀ w', SU w H w' → w'.cell? ⟨g, 11, none⟩ = some (.slice (some a) r.ds.length cd) := fun w' h => cell_at (h.2.at_ 1 rfl)
      simp (disch := first | assumption | omega) only [SX, SLX, add_mk, Nat.reduceAdd]
      refine st_call (page_spec _ _) ?_
      rintro _ w5 ⟨rfl, rfl⟩
      refine st_keepT (SU w H) hS ?_
      simp (disch := first | assumption | omega) only [SX, SLX, BX, add_mk, Nat.reduceAdd]
      have hn := upP_succ (ok := diP) (key := Di.page) hi'
      have bad : ¬ (upP diP Di.page (i + 1) r.ds) → ¬ tabP r := fun h hp => h (upP_of hp.2.2.2 (by omega))
      have go : upP diP Di.page (i + 1) r.ds → rec_tables_k3 (std Try.prog) vs (fun vs' w' => (∃ i : Nat, i ≤ r.ds.length ∧ vs'.getD 0 undef = .int .i64 i ∧ Upd w w' [] ∧ Owns w' [(g, reO r (.slice At' r.ts.length ct) (.slice (some a) r.ds.length cd))] ∧ upP diP Di.page i r.ds) ∧ r.ds.length - (intOf (vs'.getD 0 undef)).toNat < r.ds.length - (intOf (Value.int .i64 (i : Nat))).toNat) w4.drew fun u w' => u = .bool (decide (tabP r)) ∧ Upd w w' [] := by
        intro hup'
        unfold rec_tables_k3
        simp (disch := omega) only [e0, PX, w64]
        refine ⟨⟨i + 1, by omega, rfl, hS.1, hS.2.sub (.cons _ (List.Sublist.refl _)), hup'⟩, ?_⟩
        simp only [List.getD_cons_zero, intOf]; omega
      have badQ : ¬ (upP diP Di.page (i + 1) r.ds) → rec_tables_k4 (std Try.prog) w4.drew fun u w' => u = .bool (decide (tabP r)) ∧ Upd w w' [] := fun h => ⟨bf (bad h), hS.1⟩
      refine ⟨fun h1 => ?_, fun h => badQ fun hp => h (hn.1 hp).2.1.1⟩
      refine st_call (numbered_spec _ _) ?_
      rintro _ w5 ⟨rfl, rfl⟩
      refine st_keepT (SU w H) hS ?_
      simp (disch := first | assumption | omega) only [SX, SLX, BX, add_mk, Nat.reduceAdd, w64]
      refine ⟨fun h4 => ⟨fun h5 => ?_, fun h5 => ?_⟩, fun h => badQ fun hp => h (hn.1 hp).2.1.2⟩
      · obtain ⟨a', ha', hc'⟩ := row_at (f := diV) (k := 2) (fun _ => rfl) (by omega) hd (i := i - 1) (by omega)
        injection ha' with ha'
        subst ha'
        rw [show ((i : Nat) : Int) - 1 = ((i - 1 : Nat) : Int) by omega]
        have dp : ∀ w', SU w H w' → w'.cell? (a.add ((i - 1) * 2)) = some (.int .i64 r.ds[i - 1].page) := fun w' h => hc' w' h.1 0 _ rfl
        simp (disch := first | assumption | omega) only [SX, SLX, BX, add_mk, Nat.reduceAdd]
        refine ⟨fun h => ⟨bf (bad fun hp => ?_), hS.1⟩, fun h => go (hn.2 ⟨hup, ⟨h1, h4⟩, fun _ => by omega⟩)⟩
        have := (hn.1 hp).2.2 (by omega); omega
      · exact go (hn.2 ⟨hup, ⟨h1, h4⟩, fun _ => by omega⟩)
    · obtain rfl : i = r.ds.length := by omega
      unfold rec_tables_k2
      exact ⟨bt ⟨by omega, by omega, htx, hup⟩, hU2⟩
end Go.Proofs.Ytplpjikcgheiiaa.Rec

/- May a record be? The code's answer and the document's. -/
namespace Go.Proofs.Ytplpjikcgheiiaa.Rec
open Go Go.Proofs.Ytplpjikcgheiiaa Xf Go.RowKit
set_option linter.unusedVariables false
set_option linter.unusedSimpArgs false
set_option maxRecDepth 100000

theorem st_join {P : Program} {k : (Nat → Value) → List Value → World → Prop} {b : (List Value → World → Prop) → Prop} (R : List Value → World → Prop) (hb : ∀ j : List Value → World → Prop, (∀ vs w, R vs w → j vs w) → b j) (hk : ∀ dv vs w, R vs w → k dv vs w) : (std P).join k b := by
  rw [join_std]; exact hb _ fun vs w h dv => hk dv vs w h

theorem Rows_spec (w : World) (v : Value) (r : Re) (h : RdRe w v r) : CallsR Try.prog 58 #[v] w fun u w' => u = .bool (decide (tabP r)) ∧ Upd w w' [] := by
  obtain ⟨vt, vd, rfl, ⟨At', ct, rfl, hmt, ht⟩, ⟨Ad, cd, rfl, hmd, hd⟩⟩ := h
  apply flotillaref05_Rows_sound
  unfold flotillaref05_Rows_x
  refine st_box (Upd.refl w []) (Owns.nil w) ?_
  intro g w1 hU1 hO1 hg
  have hO1 : Owns w1 [(g, reO r (.slice At' r.ts.length ct) (.slice Ad r.ds.length cd))] := hO1
  obtain ⟨c0, c1, c2, c3, c4, c5, c6, c7, c8, c9, c10, c11⟩ := At.of (hO1.at_ 0 rfl)
  simp (disch := first | assumption | omega) only [PX, BX, LX, add_mk, Nat.reduceAdd]
  refine ⟨fun h => ⟨bf fun hp => by have := hp.1; omega, hU1⟩, fun hl1 => ⟨fun h => ⟨bf fun hp => by have := hp.2.1; omega, hU1⟩, fun hl2 => ?_⟩⟩
  clear c0 c1 c2 c3 c4 c5 c6 c7 c8 c9 c10 c11
  refine st_loop (fun vs w' => ∃ i : Nat, i ≤ r.ts.length ∧ vs.getD 0 undef = .int .i64 i ∧ Upd w w' [] ∧ Owns w' [(g, reO r (.slice At' r.ts.length ct) (.slice Ad r.ds.length cd))] ∧ upP txP Tx.id i r.ts) (fun vs _ => r.ts.length - (intOf (vs.getD 0 undef)).toNat) ⟨0, by omega, rfl, hU1, hO1, fun i hi => by omega⟩ ?_
  clear hU1 hO1
  rintro dv vs w2 - ⟨i, hi, e0, hU2, hO2, hup⟩
  have c10 : w2.cell? ⟨g, 10, none⟩ = some (.slice At' r.ts.length ct) := cell_at (hO2.at_ 0 rfl)
  simp (disch := first | assumption | omega) only [e0, PX, BX, LX, add_mk, Nat.reduceAdd]
  refine ⟨fun hlt => ?_, fun hge => ?_⟩
  · have hi' : i < r.ts.length := by omega
    obtain ⟨a, rfl, hc⟩ := row_at (f := txV) (k := 3) (fun _ => rfl) (by omega) ht hi'
    simp (disch := omega) only [PX]
    rw [step_run (run_tx (hc w2 hU2))]
    refine st_alloc ze136 hU2 hO2 ?_
    intro g3 w3 hU3 hO3 hg3
    refine st_tx hU3 hO3 0 rfl hg3 ?_
    intro w4 hU4 hO4
    clear hU3 hO3 hU2 hO2 c10
    let H := [(g3, txO r.ts[i]), (g, reO r (.slice (some a) r.ts.length ct) (.slice Ad r.ds.length cd))]
    have hO4 : Owns w4 H := hO4
    have hS : SU w H w4.drew := SU.drew hU4 hO4
    have hne : ∃ w', SU w H w' := ⟨_, hS⟩
    have s0 : w4.cell? ⟨g3, 0, none⟩ = some (.int .i64 r.ts[i].id) := cell_at (hO4.at_ 0 rfl)
    have s1 : w4.cell? ⟨g3, 1, none⟩ = some (.int .i64 r.ts[i].st) := cell_at (hO4.at_ 0 rfl)
    have s2 : w4.cell? ⟨g3, 2, none⟩ = some (.int .u64 (r.ts[i].last : Nat)) := cell_at (hO4.at_ 0 rfl)
    simp (disch := first | assumption | omega) only [PX, BX, LX, add_mk, Nat.reduceAdd]
    have t0 : ∀ w', SU w H w' → w'.cell? ⟨g3, 0, none⟩ = some (.int .i64 r.ts[i].id) := fun w' h => cell_at (h.2.at_ 0 rfl)
    have d10 : ∀ w', SU w H w' → w'.cell? ⟨g, 10, none⟩ = some (.slice (some a) r.ts.length ct) := fun w' h => cell_at (h.2.at_ 1 rfl)
    have hn := upP_succ (ok := txP) (key := Tx.id) hi'
    have bad : ¬ (upP txP Tx.id (i + 1) r.ts) → ¬ tabP r := fun h hp => h (upP_of hp.2.2.1 (by omega))
    have go : upP txP Tx.id (i + 1) r.ts → flotillaref05_Rows_k5 (std Try.prog) vs (fun vs' w' => (∃ i : Nat, i ≤ r.ts.length ∧ vs'.getD 0 undef = .int .i64 i ∧ Upd w w' [] ∧ Owns w' [(g, reO r (.slice (some a) r.ts.length ct) (.slice Ad r.ds.length cd))] ∧ upP txP Tx.id i r.ts) ∧ r.ts.length - (intOf (vs'.getD 0 undef)).toNat < r.ts.length - (intOf (Value.int .i64 (i : Nat))).toNat) w4.drew fun u w' => u = .bool (decide (tabP r)) ∧ Upd w w' [] := by
      intro hup'
      unfold flotillaref05_Rows_k5
      simp (disch := omega) only [e0, PX, w64]
      refine ⟨⟨i + 1, by omega, rfl, hS.1, hS.2.sub (.cons _ (List.Sublist.refl _)), hup'⟩, ?_⟩
      simp only [List.getD_cons_zero, intOf]; omega
    have badQ : ¬ (upP txP Tx.id (i + 1) r.ts) → flotillaref05_Rows_k6 (std Try.prog) w4 fun u w' => u = .bool (decide (tabP r)) ∧ Upd w w' [] := fun h => ⟨bf (bad h), hU4⟩
    refine ⟨fun h => badQ fun hp => ?_, fun h1 => ⟨fun h => badQ fun hp => ?_, fun h2 => ⟨fun h => badQ fun hp => ?_, fun h3 => ⟨fun h => badQ fun hp => ?_, fun h4 => ?_⟩⟩⟩⟩
    · have := (hn.1 hp).2.1.1.1; omega
    · have := (hn.1 hp).2.1.1.2; omega
    · have := (hn.1 hp).2.1.2.1; omega
    · have := (hn.1 hp).2.1.2.2.1; omega
    refine st_call (Numbered_spec _ _) ?_
    rintro _ w5 ⟨rfl, rfl⟩
    simp (disch := first | assumption | omega) only [PX, BX]
    refine ⟨fun h4 => ?_, fun h => ⟨bf (bad fun hp => h (hn.1 hp).2.1.2.2.2), hU4⟩⟩
    refine st_draw (SU w H) hS ?_
    simp (disch := first | assumption | omega) only [SX, SLX, BX, add_mk, Nat.reduceAdd, w64]
    have okt : txP r.ts[i] := ⟨⟨by omega, by omega⟩, by omega, by omega, h4⟩
    refine ⟨fun h5 => ?_, fun h5 => go (hn.2 ⟨hup, okt, fun _ => by omega⟩)⟩
    obtain ⟨a', ha', hc'⟩ := row_at (f := txV) (k := 3) (fun _ => rfl) (by omega) ht (i := i - 1) (by omega)
    injection ha' with ha'
    subst ha'
    rw [show ((i : Nat) : Int) - 1 = ((i - 1 : Nat) : Int) by omega]
    have dp : ∀ w', SU w H w' → w'.cell? (a.add ((i - 1) * 3)) = some (.int .i64 r.ts[i - 1].id) := fun w' h => hc' w' h.1 0 _ rfl
    simp (disch := first | assumption | omega) only [SX, SLX, BX, add_mk, Nat.reduceAdd]
    refine ⟨fun h => ⟨bf (bad fun hp => ?_), hS.1⟩, fun h => go (hn.2 ⟨hup, okt, fun _ => by omega⟩)⟩
    have := (hn.1 hp).2.2 (by omega); omega
  · obtain rfl : i = r.ts.length := by omega
    unfold flotillaref05_Rows_k1
    clear e0 c10
    have htx := hup
    clear hup
    refine st_loop (fun vs w' => ∃ i : Nat, i ≤ r.ds.length ∧ vs.getD 0 undef = .int .i64 i ∧ Upd w w' [] ∧ Owns w' [(g, reO r (.slice At' r.ts.length ct) (.slice Ad r.ds.length cd))] ∧ upP diP Di.page i r.ds) (fun vs _ => r.ds.length - (intOf (vs.getD 0 undef)).toNat) ⟨0, by omega, rfl, hU2, hO2, fun i hi => by omega⟩ ?_
    clear hU2 hO2 dv vs
    rintro dv vs w2 - ⟨i, hi, e0, hU2, hO2, hup⟩
    have c11 : w2.cell? ⟨g, 11, none⟩ = some (.slice Ad r.ds.length cd) := cell_at (hO2.at_ 0 rfl)
    simp (disch := first | assumption | omega) only [e0, PX, BX, LX, add_mk, Nat.reduceAdd]
    refine ⟨fun hlt => ?_, fun hge => ?_⟩
    · have hi' : i < r.ds.length := by omega
      obtain ⟨a, rfl, hc⟩ := row_at (f := diV) (k := 2) (fun _ => rfl) (by omega) hd hi'
      simp (disch := omega) only [PX]
      rw [step_run (run_di (hc w2 hU2))]
      refine st_alloc ze138 hU2 hO2 ?_
      intro g3 w3 hU3 hO3 hg3
      refine st_di hU3 hO3 0 rfl hg3 ?_
      intro w4 hU4 hO4
      clear hU3 hO3 hU2 hO2 c11
      let H := [(g3, diO r.ds[i]), (g, reO r (.slice At' r.ts.length ct) (.slice (some a) r.ds.length cd))]
      have hO4 : Owns w4 H := hO4
      have hS : SU w H w4.drew := SU.drew hU4 hO4
      have hne : ∃ w', SU w H w' := ⟨_, hS⟩
      have s0 : w4.cell? ⟨g3, 0, none⟩ = some (.int .i64 r.ds[i].page) := cell_at (hO4.at_ 0 rfl)
      have s1 : w4.cell? ⟨g3, 1, none⟩ = some (.int .u64 (r.ds[i].rc : Nat)) := cell_at (hO4.at_ 0 rfl)
      simp (disch := first | assumption | omega) only [PX, BX, LX, add_mk, Nat.reduceAdd]
      have t0 : ∀ w', SU w H w' → w'.cell? ⟨g3, 0, none⟩ = some (.int .i64 r.ds[i].page) := fun w' h => cell_at (h.2.at_ 0 rfl)
      have d10 : ∀ w', SU w H w' → w'.cell? ⟨g, 11, none⟩ = some (.slice (some a) r.ds.length cd) := fun w' h => cell_at (h.2.at_ 1 rfl)
      have hn := upP_succ (ok := diP) (key := Di.page) hi'
      have bad : ¬ (upP diP Di.page (i + 1) r.ds) → ¬ tabP r := fun h hp => h (upP_of hp.2.2.2 (by omega))
      have go : upP diP Di.page (i + 1) r.ds → flotillaref05_Rows_k3 (std Try.prog) vs (fun vs' w' => (∃ i : Nat, i ≤ r.ds.length ∧ vs'.getD 0 undef = .int .i64 i ∧ Upd w w' [] ∧ Owns w' [(g, reO r (.slice At' r.ts.length ct) (.slice (some a) r.ds.length cd))] ∧ upP diP Di.page i r.ds) ∧ r.ds.length - (intOf (vs'.getD 0 undef)).toNat < r.ds.length - (intOf (Value.int .i64 (i : Nat))).toNat) w4.drew fun u w' => u = .bool (decide (tabP r)) ∧ Upd w w' [] := by
        intro hup'
        unfold flotillaref05_Rows_k3
        simp (disch := omega) only [e0, PX, w64]
        refine ⟨⟨i + 1, by omega, rfl, hS.1, hS.2.sub (.cons _ (List.Sublist.refl _)), hup'⟩, ?_⟩
        simp only [List.getD_cons_zero, intOf]; omega
      have badQ : ¬ (upP diP Di.page (i + 1) r.ds) → flotillaref05_Rows_k4 (std Try.prog) w4 fun u w' => u = .bool (decide (tabP r)) ∧ Upd w w' [] := fun h => ⟨bf (bad h), hU4⟩
      refine ⟨fun h => badQ fun hp => ?_, fun h1 => ⟨fun h => badQ fun hp => ?_, fun h2 => ?_⟩⟩
      · have := (hn.1 hp).2.1.1.1; omega
      · have := (hn.1 hp).2.1.1.2; omega
      refine st_call (Numbered_spec _ _) ?_
      rintro _ w5 ⟨rfl, rfl⟩
      simp (disch := first | assumption | omega) only [PX, BX]
      refine ⟨fun h4 => ?_, fun h => ⟨bf (bad fun hp => h (hn.1 hp).2.1.2), hU4⟩⟩
      refine st_draw (SU w H) hS ?_
      simp (disch := first | assumption | omega) only [SX, SLX, BX, add_mk, Nat.reduceAdd, w64]
      have okt : diP r.ds[i] := ⟨⟨by omega, by omega⟩, h4⟩
      refine ⟨fun h5 => ?_, fun h5 => go (hn.2 ⟨hup, okt, fun _ => by omega⟩)⟩
      obtain ⟨a', ha', hc'⟩ := row_at (f := diV) (k := 2) (fun _ => rfl) (by omega) hd (i := i - 1) (by omega)
      injection ha' with ha'
      subst ha'
      rw [show ((i : Nat) : Int) - 1 = ((i - 1 : Nat) : Int) by omega]
      have dp : ∀ w', SU w H w' → w'.cell? (a.add ((i - 1) * 2)) = some (.int .i64 r.ds[i - 1].page) := fun w' h => hc' w' h.1 0 _ rfl
      simp (disch := first | assumption | omega) only [SX, SLX, BX, add_mk, Nat.reduceAdd]
      refine ⟨fun h => ⟨bf (bad fun hp => ?_), hS.1⟩, fun h => go (hn.2 ⟨hup, okt, fun _ => by omega⟩)⟩
      have := (hn.1 hp).2.2 (by omega); omega
    · obtain rfl : i = r.ds.length := by omega
      unfold flotillaref05_Rows_k2
      exact ⟨bt ⟨by omega, by omega, htx, hup⟩, hU2⟩
end Go.Proofs.Ytplpjikcgheiiaa.Rec

/- Check, May, light. -/
namespace Go.Proofs.Ytplpjikcgheiiaa.Rec
open Go Go.Proofs.Ytplpjikcgheiiaa Xf Go.RowKit
set_option linter.unusedVariables false
set_option linter.unusedSimpArgs false
set_option maxRecDepth 100000

theorem build_ac (w : World) : (sBuild 37 []).run Try.prog w = .ok (.value (.agg (acV 0 [] [] []).toArray)) w := by kernel_rfl
theorem RdRe.blk {w w1 : World} {g : Nat} {r : Re} {vt vd : Value} (hO : Owns w1 [(g, reO r vt vd)]) (hU : Upd w w1 []) (ht : RdS w txV 3 vt r.ts) (hd : RdS w diV 2 vd r.ds) : RdRe w1 (.agg (reV r vt vd).toArray) r := ⟨vt, vd, rfl, ht.mono hU, hd.mono hU⟩
theorem RdS.len {α : Type} {w : World} {f : α → List Value} {k : Nat} {v : Value} {l : List α} (h : RdS w f k v l) : ∃ A c, v = .slice A l.length c ∧ l.length ≤ maxLen := by
  obtain ⟨A, c, h1, h2, _⟩ := h; exact ⟨A, c, h1, h2⟩

def p1 (r : Re) : Prop := 0 < r.kind ∧ r.kind < 9 ∧ numP r.lsn ∧ r.prev < r.lsn ∧ r.undo < r.lsn
def p2 (r : Re) : Prop := if chgP r.kind then pageP r.page ∧ actP r.ak r.key r.old r.new else r.page = 0 ∧ r.ak = 0 ∧ r.key = [] ∧ r.old = [] ∧ r.new = []
def p3 (r : Re) : Prop := if ptP r.kind then r.txn = 0 ∧ r.prev = 0 else txnP r.txn
def p4 (r : Re) : Prop := r.kind ≠ 8 → r.ts = [] ∧ r.ds = []
theorem okP_iff (r : Re) : okP r ↔ (((p1 r ∧ p2 r) ∧ p3 r) ∧ p4 r) ∧ (r.kind ≠ 2 → r.undo = 0) ∧ tabP r := by
  unfold okP p1 p2 p3 p4
  constructor
  · rintro ⟨a, b, c, d, e, f, g, h, i, j⟩; exact ⟨⟨⟨⟨⟨a, b, c, d, e⟩, f⟩, g⟩, h⟩, i, j⟩
  · rintro ⟨⟨⟨⟨⟨a, b, c, d, e⟩, f⟩, g⟩, h⟩, i, j⟩; exact ⟨a, b, c, d, e, f, g, h, i, j⟩
noncomputable instance (r : Re) : Decidable (p1 r) := Classical.propDecidable _
noncomputable instance (r : Re) : Decidable (p2 r) := Classical.propDecidable _
noncomputable instance (r : Re) : Decidable (p3 r) := Classical.propDecidable _
noncomputable instance (r : Re) : Decidable (p4 r) := Classical.propDecidable _
def okN (p : Prop) [Decidable p] : Nat := if p then 0 else 1
theorem ok0 {p : Prop} [Decidable p] (h : p) : Value.int .i64 0 = .int .i64 (okN p : Nat) := by unfold okN; rw [if_pos h]; rfl
theorem ok1 {p : Prop} [Decidable p] (h : ¬ p) : Value.int .i64 1 = .int .i64 (okN p : Nat) := by unfold okN; rw [if_neg h]; rfl
theorem len0 {α : Type} (l : List α) : ((l.length : Int) = 0) = (l = []) := by
  cases l with
  | nil => simp
  | cons a l => simp; omega

theorem Check_spec (w : World) (v : Value) (r : Re) (h : RdRe w v r) : CallsR Try.prog 93 #[v] w fun u w' => u = .int .i64 (okN (okP r) : Nat) ∧ Upd w w' [] := by
  obtain ⟨vt, vd, rfl, hT, hD⟩ := h
  obtain ⟨At', ct, rfl, hmt⟩ := RdS.len hT
  obtain ⟨Ad, cd, rfl, hmd⟩ := RdS.len hD
  apply rec_Check_sound
  unfold rec_Check_x
  refine st_box (Upd.refl w []) (Owns.nil w) ?_
  intro g w1 hU1 hO1 hg
  have hO1 : Owns w1 [(g, reO r (.slice At' r.ts.length ct) (.slice Ad r.ds.length cd))] := hO1
  let R : Prop → List Value → World → Prop := fun p vs w' => (∃ b, vs.getD 0 undef = .bool b ∧ (b = true ↔ p)) ∧ Upd w w' [] ∧ Owns w' [(g, reO r (.slice At' r.ts.length ct) (.slice Ad r.ds.length cd))]
  have jt : ∀ {p : Prop} {j : List Value → World → Prop}, (∀ vs w', R p vs w' → j vs w') → ∀ (b : Bool) (w' : World), (b = true ↔ p) → Upd w w' [] → Owns w' [(g, reO r (.slice At' r.ts.length ct) (.slice Ad r.ds.length cd))] → j [.bool b] w' := fun hj b w' hb hU hO => hj _ _ ⟨⟨b, rfl, hb⟩, hU, hO⟩
  refine st_join (R (p1 r)) ?_ ?_
  · intro j hj
    obtain ⟨c0, c1, c2, c3, c4, c5, c6, c7, c8, c9, c10, c11⟩ := At.of (hO1.at_ 0 rfl)
    simp (disch := first | assumption | omega) only [PX, BX, LX, add_mk, Nat.reduceAdd]
    refine ⟨fun h1 => ⟨fun h2 => ?_, fun h2 => jt hj _ _ ?_ hU1 hO1⟩, fun h1 => jt hj _ _ ?_ hU1 hO1⟩
    · refine st_call (numbered_spec _ _) ?_
      rintro _ w2 ⟨rfl, rfl⟩
      simp (disch := first | assumption | omega) only [PX, BX, LX, add_mk, Nat.reduceAdd]
      refine ⟨fun h3 => ⟨fun h4 => jt hj _ _ ?_ hU1 hO1, fun h4 => jt hj _ _ ?_ hU1 hO1⟩, fun h3 => jt hj _ _ ?_ hU1 hO1⟩ <;> unfold p1 <;> grind
    · unfold p1; grind
    · unfold p1; grind
  clear hU1 hO1
  rintro dv vs w2 ⟨⟨b, hb, hp⟩, hU2, hO2⟩
  unfold rec_Check_j6
  refine st_join (R (p1 r ∧ p2 r)) ?_ ?_
  · intro j hj
    obtain ⟨c0, c1, c2, c3, c4, c5, c6, c7, c8, c9, c10, c11⟩ := At.of (hO2.at_ 0 rfl)
    simp (disch := first | assumption | omega) only [PX, BX, LX, add_mk, Nat.reduceAdd, hb]
    refine st_call (changes_spec _ _) ?_
    rintro _ w3 ⟨rfl, rfl⟩
    cases b with
    | false =>
      simp only [BX]
      exact ⟨fun _ => jt hj _ _ (by grind) hU2 hO2, fun _ => jt hj _ _ (by grind) hU2 hO2⟩
    | true =>
      simp (disch := first | assumption | omega) only [PX, BX, LX, add_mk, Nat.reduceAdd]
      refine ⟨fun h1 => ?_, fun h1 => ⟨fun h2 => ?_, fun h2 => jt hj _ _ (by unfold p2; grind) hU2 hO2⟩⟩
      · refine st_call (page_spec _ _) ?_
        rintro _ w4 ⟨rfl, rfl⟩
        simp (disch := first | assumption | omega) only [PX, BX, LX, add_mk, Nat.reduceAdd]
        refine ⟨fun h2 => ?_, fun h2 => jt hj _ _ (by unfold p2; grind) hU2 hO2⟩
        rw [step_run (run_ac (hO2.at_ 0 rfl))]
        refine st_call (mayAct_spec _ _ _ _ _) ?_
        rintro _ w5 ⟨rfl, hU5⟩
        exact jt hj _ _ (by unfold p2; grind) (hU2.trans hU5) (hO2.ext hU5)
      · rw [step_run (run_ac (hO2.at_ 0 rfl)), step_run (build_ac _), step_run ((ac_eq _ _ _ _ _ _ _ _ _).1 _ _)]
        exact jt hj _ _ (by unfold p2; grind) hU2 hO2
  clear hb hp hU2 hO2 dv vs b
  rintro dv vs w2 ⟨⟨b, hb, hp⟩, hU2, hO2⟩
  unfold rec_Check_j5
  refine st_join (R ((p1 r ∧ p2 r) ∧ p3 r)) ?_ ?_
  · intro j hj
    obtain ⟨c0, c1, c2, c3, c4, c5, c6, c7, c8, c9, c10, c11⟩ := At.of (hO2.at_ 0 rfl)
    simp (disch := first | assumption | omega) only [PX, BX, LX, add_mk, Nat.reduceAdd, hb]
    refine st_call (points_spec _ _) ?_
    rintro _ w3 ⟨rfl, rfl⟩
    cases b with
    | false =>
      simp only [BX]
      exact ⟨fun _ => jt hj _ _ (by grind) hU2 hO2, fun _ => jt hj _ _ (by grind) hU2 hO2⟩
    | true =>
      simp (disch := first | assumption | omega) only [PX, BX, LX, add_mk, Nat.reduceAdd]
      refine ⟨fun h1 => ⟨fun h2 => jt hj _ _ (by unfold p3; grind) hU2 hO2, fun h2 => jt hj _ _ (by unfold p3; grind) hU2 hO2⟩, fun h1 => ?_⟩
      refine st_call (txn_spec _ _) ?_
      rintro _ w4 ⟨rfl, rfl⟩
      exact jt hj _ _ (by unfold p3; grind) hU2 hO2
  clear hb hp hU2 hO2 dv vs b
  rintro dv vs w2 ⟨⟨b, hb, hp⟩, hU2, hO2⟩
  unfold rec_Check_j4
  refine st_join (R (((p1 r ∧ p2 r) ∧ p3 r) ∧ p4 r)) ?_ ?_
  · intro j hj
    obtain ⟨c0, c1, c2, c3, c4, c5, c6, c7, c8, c9, c10, c11⟩ := At.of (hO2.at_ 0 rfl)
    simp (disch := first | assumption | omega) only [PX, BX, LX, add_mk, Nat.reduceAdd, hb]
    refine ⟨fun h1 => ?_, fun h1 => jt hj _ _ (by unfold p4; grind) hU2 hO2⟩
    cases b with
    | false =>
      simp only [BX]
      exact jt hj _ _ (by grind) hU2 hO2
    | true =>
      simp (disch := first | assumption | omega) only [PX, BX, LX, add_mk, Nat.reduceAdd, len0]
      refine ⟨fun h2 => jt hj _ _ (by unfold p4; grind) hU2 hO2, fun h2 => jt hj _ _ (by unfold p4; grind) hU2 hO2⟩
  clear hb hp hU2 hO2 dv vs b
  rintro dv vs w2 ⟨⟨b, hb, hp⟩, hU2, hO2⟩
  have hi := okP_iff r
  obtain ⟨c0, c1, c2, c3, c4, c5, c6, c7, c8, c9, c10, c11⟩ := At.of (hO2.at_ 0 rfl)
  unfold rec_Check_j3 rec_Check_k1 rec_Check_k2
  simp (disch := first | assumption | omega) only [PX, BX, LX, add_mk, Nat.reduceAdd, hb]
  cases b with
  | false =>
    simp only [BX]
    exact ⟨ok1 (by grind), hU2⟩
  | true =>
    have hp := hp.1 rfl
    simp (disch := first | assumption | omega) only [PX, BX, LX, add_mk, Nat.reduceAdd]
    refine ⟨fun h1 => ⟨fun h2 => ⟨ok1 (by grind), hU2⟩, fun h2 => ?_⟩, fun h1 => ?_⟩
    all_goals
      rw [step_run (run_re (hO2.at_ 0 rfl))]
      refine st_call (tables_spec _ _ _ (RdRe.blk hO2 hU2 hT hD)) ?_
      rintro _ w5 ⟨rfl, hU5⟩
      simp only [PX, BX]
      exact ⟨fun h => ⟨ok0 (by grind), hU2.trans hU5⟩, fun h => ⟨ok1 (by grind), hU2.trans hU5⟩⟩

theorem May_spec (w : World) (v : Value) (r : Re) (hs : r.ts.length ≤ 1000 ∧ r.ds.length ≤ 1000) (h : RdRe w v r) : CallsR Try.prog 27 #[v] w fun u w' => u = .bool (decide (okP r)) ∧ Upd w w' [] := by
  obtain ⟨vt, vd, rfl, hT, hD⟩ := h
  obtain ⟨At', ct, rfl, hmt⟩ := RdS.len hT
  obtain ⟨Ad, cd, rfl, hmd⟩ := RdS.len hD
  apply flotillaref05_May_sound
  unfold flotillaref05_May_x flotillaref05_May_k1 flotillaref05_May_k6
  refine st_box (Upd.refl w []) (Owns.nil w) ?_
  intro g w1 hU1 hO1 hg
  have hO1 : Owns w1 [(g, reO r (.slice At' r.ts.length ct) (.slice Ad r.ds.length cd))] := hO1
  have hi := okP_iff r
  have bad : ∀ w', Upd w w' [] → ¬ okP r → Value.bool false = .bool (decide (okP r)) ∧ Upd w w' [] := fun w' hU h => ⟨bf h, hU⟩
  let R : Prop → List Value → World → Prop := fun p vs w' => p ∧ Upd w w' [] ∧ Owns w' [(g, reO r (.slice At' r.ts.length ct) (.slice Ad r.ds.length cd))]
  obtain ⟨c0, c1, c2, c3, c4, c5, c6, c7, c8, c9, c10, c11⟩ := At.of (hO1.at_ 0 rfl)
  simp (disch := first | assumption | omega) only [PX, BX, LX, add_mk, Nat.reduceAdd]
  refine ⟨fun h => bad _ hU1 (by unfold p1 at hi; grind), fun h1 => ⟨fun h => bad _ hU1 (by unfold p1 at hi; grind), fun h2 => ?_⟩⟩
  refine st_call (Numbered_spec _ _) ?_
  rintro _ w2 ⟨rfl, rfl⟩
  simp (disch := first | assumption | omega) only [PX, BX, LX, add_mk, Nat.reduceAdd]
  refine ⟨fun h3 => ⟨fun h => bad _ hU1 (by unfold p1 at hi; grind), fun h4 => ⟨fun h => bad _ hU1 (by unfold p1 at hi; grind), fun h5 => ?_⟩⟩, fun h => bad _ hU1 (by unfold p1 at hi; grind)⟩
  have hp1 : p1 r := by unfold p1; grind
  refine st_join (R (p1 r ∧ p2 r)) ?_ ?_
  · intro j hj
    refine st_call (Changes_spec _ _) ?_
    rintro _ w3 ⟨rfl, rfl⟩
    simp (disch := first | assumption | omega) only [PX, BX, LX, add_mk, Nat.reduceAdd]
    refine ⟨fun h6 => ⟨fun h => bad _ hU1 (by unfold p2 pageP at hi; grind), fun h7 => ⟨fun h => bad _ hU1 (by unfold p2 pageP at hi; grind), fun h8 => ?_⟩⟩, fun h6 => ⟨fun h => bad _ hU1 (by unfold p2 at hi; grind), fun h7 => ?_⟩⟩
    · rw [step_run (run_ac (hO1.at_ 0 rfl))]
      refine st_call (ActMay_spec _ _ _ _ _) ?_
      rintro _ w5 ⟨rfl, hU5⟩
      simp (disch := first | assumption | omega) only [PX, BX]
      exact ⟨fun h => hj _ _ ⟨⟨hp1, by unfold p2 pageP; grind⟩, hU1.trans hU5, hO1.ext hU5⟩, fun h => bad _ (hU1.trans hU5) (by unfold p2 at hi; grind)⟩
    · rw [step_run (run_ac (hO1.at_ 0 rfl)), step_run (build_ac _), step_run ((ac_eq _ _ _ _ _ _ _ _ _).2 _ _)]
      simp only [BX]
      exact ⟨fun h => hj _ _ ⟨⟨hp1, by unfold p2; grind⟩, hU1, hO1⟩, fun h => bad _ hU1 (by unfold p2 at hi; grind)⟩
  clear hO1 hU1 c0 c1 c2 c3 c4 c5 c6 c7 c8 c9 c10 c11 hp1
  rintro dv vs w2 ⟨hp, hU1, hO1⟩
  obtain ⟨c0, c1, c2, c3, c4, c5, c6, c7, c8, c9, c10, c11⟩ := At.of (hO1.at_ 0 rfl)
  have rest : (r.kind ≠ 2 → r.undo = 0) → flotillaref05_May_k2 (std Try.prog) (.pointer (some ⟨g, 0, none⟩)) w2 fun u w' => u = .bool (decide (okP r)) ∧ Upd w w' [] := by
    intro hun
    unfold flotillaref05_May_k2
    refine st_join (R ((p1 r ∧ p2 r) ∧ p3 r)) ?_ ?_
    · intro j hj
      simp (disch := first | assumption | omega) only [PX, BX, LX, add_mk, Nat.reduceAdd]
      have jt : p3 r → j [] w2 := fun h => hj _ _ ⟨⟨hp, h⟩, hU1, hO1⟩
      refine ⟨fun h => ⟨fun h => bad _ hU1 (by unfold p3 ptP at hi; grind), fun h2 => ⟨fun h => bad _ hU1 (by unfold p3 ptP at hi; grind), fun h3 => jt (by unfold p3 ptP; grind)⟩⟩,
        fun h => ⟨fun h => ⟨fun h => bad _ hU1 (by unfold p3 ptP at hi; grind), fun h2 => ⟨fun h => bad _ hU1 (by unfold p3 ptP at hi; grind), fun h3 => jt (by unfold p3 ptP; grind)⟩⟩,
          fun h => ⟨fun h => bad _ hU1 (by unfold p3 ptP txnP at hi; grind), fun h2 => ⟨fun h => bad _ hU1 (by unfold p3 ptP txnP at hi; grind), fun h3 => jt (by unfold p3 ptP txnP; grind)⟩⟩⟩⟩
    clear hO1 hU1 c0 c1 c2 c3 c4 c5 c6 c7 c8 c9 c10 c11 hp
    rintro dv vs w2 ⟨hp, hU1, hO1⟩
    obtain ⟨c0, c1, c2, c3, c4, c5, c6, c7, c8, c9, c10, c11⟩ := At.of (hO1.at_ 0 rfl)
    have fin : p4 r → flotillaref05_May_k3 (std Try.prog) (.pointer (some ⟨g, 0, none⟩)) w2 fun u w' => u = .bool (decide (okP r)) ∧ Upd w w' [] := by
      intro h4
      unfold flotillaref05_May_k3
      rw [step_run (run_re (hO1.at_ 0 rfl))]
      refine st_call (Rows_spec _ _ _ (RdRe.blk hO1 hU1 hT hD)) ?_
      rintro _ w5 ⟨rfl, hU5⟩
      exact ⟨bd (by grind), hU1.trans hU5⟩
    unfold flotillaref05_May_j4
    simp (disch := first | assumption | omega) only [PX, BX, LX, add_mk, Nat.reduceAdd, w64]
    have e1 := List.length_eq_zero_iff (l := r.ts)
    have e2 := List.length_eq_zero_iff (l := r.ds)
    refine ⟨fun h => ⟨fun h2 => bad _ hU1 fun ho => ?_, fun h2 => fin fun _ => ⟨e1.1 (by omega), e2.1 (by omega)⟩⟩, fun h => fin fun h' => absurd h' h⟩
    have := (hi.1 ho).1.2 h
    rw [e1.2 this.1, e2.2 this.2] at h2
    omega
  unfold flotillaref05_May_j5
  simp (disch := first | assumption | omega) only [PX, BX, LX, add_mk, Nat.reduceAdd]
  exact ⟨fun h => ⟨fun h => bad _ hU1 (by grind), fun h => rest (by grind)⟩, fun h => rest (by grind)⟩

def lightP (r : Re) : Prop := r.ts.length ≤ 300 ∧ r.ds.length ≤ 300 ∧ r.key.length + r.old.length + r.new.length ≤ 1000
instance (r : Re) : Decidable (lightP r) := by unfold lightP; infer_instance
end Go.Proofs.Ytplpjikcgheiiaa.Rec

/- Which records are the same. -/
namespace Go.Proofs.Ytplpjikcgheiiaa.Rec
open Go Go.Proofs.Ytplpjikcgheiiaa Xf Go.RowKit
set_option linter.unusedVariables false
set_option linter.unusedSimpArgs false
set_option maxRecDepth 100000
theorem rSame_spec (w : World) (va vb : Value) (a b : Re) (ha : RdRe w va a) (hb : RdRe w vb b) : CallsR Try.prog 49 #[va, vb] w fun u w' => u = .bool (decide (a = b)) ∧ Upd w w' [] := by
  obtain ⟨vt, vd, rfl, ⟨A1, n1, rfl, hm1, ht1⟩, ⟨A2, n2, rfl, hm2, hd1⟩⟩ := ha
  obtain ⟨vt, vd, rfl, ⟨B1, m1, rfl, hk1, ht2⟩, ⟨B2, m2, rfl, hk2, hd2⟩⟩ := hb
  unfold maxLen at hm1 hm2
  apply flotillaref05_Same_sound
  unfold flotillaref05_Same_x flotillaref05_Same_k1
  refine st_box (Upd.refl w []) (Owns.nil w) ?_
  intro g w1 hU1 hO1 hg
  refine st_box hU1 hO1 ?_
  intro g2 w2 hU2 hO2 hg2
  clear hU1 hO1
  let H := [(g2, reO b (.slice B1 b.ts.length m1) (.slice B2 b.ds.length m2)), (g, reO a (.slice A1 a.ts.length n1) (.slice A2 a.ds.length n2))]
  have hO2 : Owns w2 H := hO2
  have hN : ∀ w', Upd w w' [] → a ≠ b → Value.bool false = .bool (decide (a = b)) ∧ Upd w w' [] := fun w' hU h => ⟨bf h, hU⟩
  obtain ⟨c0, c1, c2, c3, c4, c5, c6, c7, c8, c9, c10, c11⟩ := At.of (hO2.at_ 1 rfl)
  obtain ⟨e0, e1, e2, e3, e4, e5, e6, e7, e8, e9, e10, e11⟩ := At.of (hO2.at_ 0 rfl)
  simp (disch := first | assumption | omega) only [PX, BX, LX, add_mk, Nat.reduceAdd]
  refine ⟨fun h => hN _ hU2 (by grind), fun h1 => ⟨fun h => hN _ hU2 (by grind), fun h2 => ⟨fun h => hN _ hU2 (by grind), fun h3 => ⟨fun h => hN _ hU2 (by grind), fun h4 => ⟨fun h => hN _ hU2 (by grind), fun h5 => ⟨fun h => hN _ hU2 (by grind), fun h6 => ?_⟩⟩⟩⟩⟩⟩
  rw [step_run (run_ac (hO2.at_ 1 rfl)), step_run (run_ac (hO2.at_ 0 rfl)), step_run ((ac_eq _ _ _ _ _ _ _ _ _).2 _ _)]
  simp (disch := first | assumption | omega) only [PX, BX, LX, add_mk, Nat.reduceAdd]
  refine ⟨fun h7 => ⟨fun h => hN _ hU2 (by grind), fun h8 => ⟨fun h => hN _ hU2 (by grind), fun h9 => ?_⟩⟩, fun h => hN _ hU2 (by grind)⟩
  clear c0 c1 c2 c3 c4 c5 c6 c7 c8 c9 c10 c11 e0 e1 e2 e3 e4 e5 e6 e7 e8 e9 e10 e11
  have h8 : a.ts.length = b.ts.length := by omega
  have h9 : a.ds.length = b.ds.length := by omega
  refine st_loop (fun vs w' => ∃ i : Nat, i ≤ a.ts.length ∧ vs.getD 0 undef = .int .i64 i ∧ Upd w w' [] ∧ Owns w' H ∧ ∀ j, j < i → a.ts[j]? = b.ts[j]?) (fun vs _ => a.ts.length - (intOf (vs.getD 0 undef)).toNat) ⟨0, by omega, rfl, hU2, hO2, fun j hj => by omega⟩ ?_
  clear hU2 hO2
  rintro dv vs w2 - ⟨i, hi, e0, hU2, hO2, hall⟩
  have c10 : w2.cell? ⟨g, 10, none⟩ = some (.slice A1 a.ts.length n1) := cell_at (hO2.at_ 1 rfl)
  simp (disch := first | assumption | omega) only [e0, PX, BX, LX, add_mk, Nat.reduceAdd]
  refine ⟨fun hlt => ?_, fun hge => ?_⟩
  · have hi1 : i < a.ts.length := by omega
    have hi2 : i < b.ts.length := by omega
    obtain ⟨x, rfl, hx⟩ := row_at (f := txV) (k := 3) (fun _ => rfl) (by omega) ht1 hi1
    obtain ⟨y, rfl, hy⟩ := row_at (f := txV) (k := 3) (fun _ => rfl) (by omega) ht2 hi2
    have hS : SU w H w2.drew := SU.drew hU2 hO2
    have hne : ∃ w', SU w H w' := ⟨_, hS⟩
    refine st_draw (SU w H) hS ?_
    have d1 : ∀ w', SU w H w' → w'.cell? ⟨g, 10, none⟩ = some (.slice (some x) a.ts.length n1) := fun w' h => cell_at (h.2.at_ 1 rfl)
    have d2 : ∀ w', SU w H w' → w'.cell? ⟨g2, 10, none⟩ = some (.slice (some y) b.ts.length m1) := fun w' h => cell_at (h.2.at_ 0 rfl)
    simp (disch := first | assumption | omega) only [SX, SLX, add_mk, Nat.reduceAdd]
    rw [stepS_run hne fun w' h => run_tx (hx w' h.1), stepS_run hne fun w' h => run_tx (hy w' h.1), stepS_run hne fun w' h => (tx_eq _ _ w').2 _ _]
    simp (disch := first | assumption | omega) only [PX, BX, w64]
    refine ⟨fun he => ⟨⟨i + 1, by omega, rfl, hS.1, hS.2, fun j hj => ?_⟩, ?_⟩, fun h => hN _ hS.1 ?_⟩
    · by_cases hji : j < i
      · exact hall j hji
      · obtain rfl : j = i := by omega
        rw [List.getElem?_eq_getElem hi1, List.getElem?_eq_getElem hi2, he]
    · simp only [List.getD_cons_zero, intOf]; omega
    · rintro rfl; exact h rfl
  · obtain rfl : i = a.ts.length := by omega
    have ets : a.ts = b.ts := by
      apply List.ext_getElem?
      intro j
      by_cases hj : j < a.ts.length
      · exact hall j hj
      · rw [List.getElem?_eq_none (by omega), List.getElem?_eq_none (by omega)]
    unfold flotillaref05_Same_k2 flotillaref05_Same_k3
    clear c10 e0 hall
    have c11 : w2.cell? ⟨g, 11, none⟩ = some (.slice A2 a.ds.length n2) := cell_at (hO2.at_ 1 rfl)
    clear c11
    refine st_loop (fun vs w' => ∃ i : Nat, i ≤ a.ds.length ∧ vs.getD 0 undef = .int .i64 i ∧ Upd w w' [] ∧ Owns w' H ∧ ∀ j, j < i → a.ds[j]? = b.ds[j]?) (fun vs _ => a.ds.length - (intOf (vs.getD 0 undef)).toNat) ⟨0, by omega, rfl, hU2, hO2, fun j hj => by omega⟩ ?_
    clear hU2 hO2 dv vs
    rintro dv vs w2 - ⟨i, hi, e0, hU2, hO2, hall⟩
    have c11 : w2.cell? ⟨g, 11, none⟩ = some (.slice A2 a.ds.length n2) := cell_at (hO2.at_ 1 rfl)
    simp (disch := first | assumption | omega) only [e0, PX, BX, LX, add_mk, Nat.reduceAdd]
    refine ⟨fun hlt => ?_, fun hge => ?_⟩
    · have hi1 : i < a.ds.length := by omega
      have hi2 : i < b.ds.length := by omega
      obtain ⟨x, rfl, hx⟩ := row_at (f := diV) (k := 2) (fun _ => rfl) (by omega) hd1 hi1
      obtain ⟨y, rfl, hy⟩ := row_at (f := diV) (k := 2) (fun _ => rfl) (by omega) hd2 hi2
      have hS : SU w H w2.drew := SU.drew hU2 hO2
      have hne : ∃ w', SU w H w' := ⟨_, hS⟩
      refine st_draw (SU w H) hS ?_
      have d1 : ∀ w', SU w H w' → w'.cell? ⟨g, 11, none⟩ = some (.slice (some x) a.ds.length n2) := fun w' h => cell_at (h.2.at_ 1 rfl)
      have d2 : ∀ w', SU w H w' → w'.cell? ⟨g2, 11, none⟩ = some (.slice (some y) b.ds.length m2) := fun w' h => cell_at (h.2.at_ 0 rfl)
      simp (disch := first | assumption | omega) only [SX, SLX, add_mk, Nat.reduceAdd]
      rw [stepS_run hne fun w' h => run_di (hx w' h.1), stepS_run hne fun w' h => run_di (hy w' h.1), stepS_run hne fun w' h => (di_eq _ _ w').2 _ _]
      simp (disch := first | assumption | omega) only [PX, BX, w64]
      refine ⟨fun he => ⟨⟨i + 1, by omega, rfl, hS.1, hS.2, fun j hj => ?_⟩, ?_⟩, fun h => hN _ hS.1 ?_⟩
      · by_cases hji : j < i
        · exact hall j hji
        · obtain rfl : j = i := by omega
          rw [List.getElem?_eq_getElem hi1, List.getElem?_eq_getElem hi2, he]
      · simp only [List.getD_cons_zero, intOf]; omega
      · rintro rfl; exact h rfl
    · obtain rfl : i = a.ds.length := by omega
      have eds : a.ds = b.ds := by
        apply List.ext_getElem?
        intro j
        by_cases hj : j < a.ds.length
        · exact hall j hj
        · rw [List.getElem?_eq_none (by omega), List.getElem?_eq_none (by omega)]
      refine ⟨bt ?_, hU2⟩
      obtain ⟨a0, a1, a2, a3, a4, a5, a6, a7, a8, a9, a10, a11⟩ := a
      obtain ⟨b0, b1, b2, b3, b4, b5, b6, b7, b8, b9, b10, b11⟩ := b
      simp only at h1 h2 h3 h4 h5 h6 h7 ets eds
      simp only [Re.mk.injEq]
      grind
end Go.Proofs.Ytplpjikcgheiiaa.Rec

/- A record's bytes. -/
namespace Go.Proofs.Ytplpjikcgheiiaa.Rec
open Go Go.Proofs.Ytplpjikcgheiiaa Go.Proofs.Ytplpjikcgheiiaa.Enc Xf Go.RowKit
set_option linter.unusedVariables false
set_option linter.unusedSimpArgs false
set_option maxRecDepth 100000

theorem wr8 {a : Int} (h0 : 0 ≤ a) (h1 : a < 256) : IntKind.wrap .u8 a = ((a.toNat : Nat) : Int) := by rw [IntKind.wrap_u8]; omega
theorem wr16 {a : Int} (h0 : 0 ≤ a) (h1 : a < 65536) : IntKind.wrap .u16 a = ((a.toNat : Nat) : Int) := by
  simp [IntKind.wrap, IntKind.bits, IntKind.signed]; omega
theorem wr32 {a : Int} (h0 : 0 ≤ a) (h1 : a < 4294967296) : IntKind.wrap .u32 a = ((a.toNat : Nat) : Int) := by rw [IntKind.wrap_u32]; omega
theorem wr64 {a : Int} (h0 : 0 ≤ a) (h1 : a < 18446744073709551616) : IntKind.wrap .u64 a = ((a.toNat : Nat) : Int) := by
  simp [IntKind.wrap, IntKind.bits, IntKind.signed]; omega
theorem At.mono {w w' : World} {g : Nat} {r : Re} {vt vd : Value} (h : At w g r vt vd) (hU : Upd w w' []) : At w' g r vt vd := by
  have hg := World.block_lt_of_cell? w _ h.c0
  have hc : ∀ i, w'.cell? ⟨g, i, none⟩ = w.cell? ⟨g, i, none⟩ := fun i => hU.cell hg (by simp)
  obtain ⟨c0, c1, c2, c3, c4, c5, c6, c7, c8, c9, c10, c11⟩ := h
  refine ⟨?_, ?_, ?_, ?_, ?_, ?_, ?_, ?_, ?_, ?_, ?_, ?_⟩ <;> (rw [hc]; assumption)
theorem WI.front {W w : World} {F : List (Nat × Obj)} {g : Nat} {l : List UInt8} (h : WI W F g l w) {p : Nat × Obj} (hp : p ∈ F) : w.heap[p.1]? = some p.2 := by
  obtain ⟨v, hh, h1, h2, h3, h4, h5⟩ := h
  exact h2.2 p (List.mem_append_right _ (List.mem_cons_of_mem _ hp))
theorem flat_take {α : Type} (f : α → List UInt8) {l : List α} {i : Nat} (h : i < l.length) : (l.take (i + 1)).flatMap f = (l.take i).flatMap f ++ f l[i] := by
  rw [List.take_succ_eq_append_getElem h, List.flatMap_append]; simp

def headB (r : Re) : List UInt8 := leB r.kind.toNat 1 ++ leB r.lsn 8 ++ leB r.txn.toNat 4 ++ leB r.prev 8
def chgB (r : Re) : List UInt8 := if chgP r.kind then leB r.page.toNat 2 ++ leB r.ak.toNat 1 ++ textB r.key ++ textB r.old ++ textB r.new else []
def undoB (r : Re) : List UInt8 := if r.kind = 2 then leB r.undo 8 else []
def txB (t : Tx) : List UInt8 := leB t.id.toNat 4 ++ leB t.st.toNat 1 ++ leB t.last 8
def diB (d : Di) : List UInt8 := leB d.page.toNat 2 ++ leB d.rc 8
def tabB (r : Re) : List UInt8 := if r.kind = 8 then leB r.ts.length 1 ++ r.ts.flatMap txB ++ leB r.ds.length 1 ++ r.ds.flatMap diB else []
def reB (r : Re) : List UInt8 := headB r ++ chgB r ++ undoB r ++ tabB r
theorem headB_len (r : Re) : (headB r).length = 21 := by simp [headB, leB_len]
theorem flat_le {α : Type} (f : α → List UInt8) (k : Nat) (hf : ∀ x, (f x).length = k) : ∀ l : List α, (l.flatMap f).length = l.length * k
  | [] => by simp
  | x :: l => by rw [List.flatMap_cons, List.length_append, hf, flat_le f k hf l, List.length_cons, Nat.succ_mul]; omega
theorem txB_len (t : Tx) : (txB t).length = 13 := by simp [txB, leB_len]
theorem diB_len (t : Di) : (diB t).length = 10 := by simp [diB, leB_len]
theorem chgB_len {r : Re} (h : okP r) : (chgB r).length ≤ 89 := by
  unfold chgB
  by_cases hc : chgP r.kind
  · have := h.2.2.2.2.2.1
    rw [if_pos hc] at this ⊢
    obtain ⟨_, _, h1, h2, h3, _⟩ := this
    simp only [List.length_append, leB_len, textB_len]
    omega
  · rw [if_neg hc]; simp
theorem undoB_len (r : Re) : (undoB r).length ≤ 8 := by
  unfold undoB; split <;> simp [leB_len]
theorem tabB_len {r : Re} (h : okP r) : (tabB r).length ≤ 994 := by
  unfold tabB
  have h1 := h.2.2.2.2.2.2.2.2.2.1
  have h2 := h.2.2.2.2.2.2.2.2.2.2.1
  split
  · simp only [List.length_append, leB_len, flat_le txB 13 txB_len, flat_le diB 10 diB_len]; omega
  · simp
theorem reB_len {r : Re} (h : okP r) : (reB r).length ≤ 1112 := by
  have h1 := headB_len r; have h2 := chgB_len h; have h3 := undoB_len r; have h4 := tabB_len h
  unfold reB; simp only [List.length_append]; omega

/-- a row of bytes of one's own, or nothing -/
theorem NewB.nil {w w' : World} (hU : Upd w w' []) : NewB w w' (.slice none 0 0) [] := ⟨[], RowH.nil_ 5 1, Owns.nil _, hU, fun p hp => by cases hp⟩
theorem NewB.base {w w1 w' : World} {v : Value} {l : List UInt8} (h : NewB w1 w' v l) (hU : Upd w w1 []) : NewB w w' v l := by
  obtain ⟨hh, h1, h2, h3, h4⟩ := h
  exact ⟨hh, h1, h2, hU.trans h3, fun p hp => Nat.le_trans hU.size (h4 p hp)⟩

theorem Encode_spec (w : World) (v : Value) (r : Re) (h : RdRe w v r) : CallsR Try.prog 82 #[v] w fun u w' => ∃ x, u = .tuple #[x, .int .i64 (okN (okP r) : Nat)] ∧ NewB w w' x (if okP r then reB r else []) := by
  obtain ⟨vt, vd, rfl, hT, hD⟩ := h
  obtain ⟨At', ct, rfl, hmt⟩ := RdS.len hT
  obtain ⟨Ad, cd, rfl, hmd⟩ := RdS.len hD
  apply rec_Encode_sound
  unfold rec_Encode_x
  refine st_box (Upd.refl w []) (Owns.nil w) ?_
  intro g w1 hU1 hO1 hg
  have hO1 : Owns w1 [(g, reO r (.slice At' r.ts.length ct) (.slice Ad r.ds.length cd))] := hO1
  rw [step_run (run_re (hO1.at_ 0 rfl))]
  refine st_call (Check_spec _ _ r (RdRe.blk hO1 hU1 hT hD)) ?_
  rintro _ w2 ⟨rfl, hU2⟩
  have hO2 := hO1.ext hU2
  have hU2 := hU1.trans hU2
  clear hU1 hO1
  by_cases hok : okP r
  · have e0 : okN (okP r) = 0 := by unfold okN; rw [if_pos hok]
    rw [e0, if_pos hok]
    simp only [PX, BX]
    refine ⟨fun h => absurd rfl h, fun _ => ?_⟩
    refine st_call (New_spec w2) ?_
    rintro _ w3 ⟨gw, rfl, hW⟩
    have hA := At.of (hO2.at_ 0 rfl)
    have hT := hT.mono hU2
    have hD := hD.mono hU2
    obtain ⟨k1, k2, k3, k4, k5, k6, k7, k8, k9, k10⟩ := hok
    have hok : okP r := ⟨k1, k2, k3, k4, k5, k6, k7, k8, k9, k10⟩
    have l1 := headB_len r
    have l2 := chgB_len hok
    have l3 := undoB_len r
    have l4 := tabB_len hok
    unfold numP at k3
    have htx : 0 ≤ r.txn ∧ r.txn ≤ 1073741824 := by unfold txnP at k7; split at k7 <;> omega
    obtain ⟨c0, -⟩ := hA.mono hW.mid
    simp (disch := first | assumption | omega) only [PX, BX, LX, add_mk, Nat.reduceAdd, wr8]
    refine st_call (Byte_spec r.kind.toNat (by simp) (by omega) hW) ?_
    intro _ w4 hW
    obtain ⟨-, c1, -⟩ := hA.mono hW.mid
    simp (disch := first | assumption | omega) only [PX, BX, LX, add_mk, Nat.reduceAdd]
    refine st_call (Eight_spec r.lsn (by simp only [List.length_append, leB_len, List.length_nil]; omega) hW) ?_
    intro _ w5 hW
    obtain ⟨-, -, c2, -⟩ := hA.mono hW.mid
    simp (disch := first | assumption | omega) only [PX, BX, LX, add_mk, Nat.reduceAdd, wr32]
    refine st_call (Four_spec r.txn.toNat (by simp only [List.length_append, leB_len, List.length_nil]; omega) (by omega) hW) ?_
    intro _ w6 hW
    obtain ⟨-, -, -, c3, -⟩ := hA.mono hW.mid
    simp (disch := first | assumption | omega) only [PX, BX, LX, add_mk, Nat.reduceAdd]
    refine st_call (Eight_spec r.prev (by simp only [List.length_append, leB_len, List.length_nil]; omega) hW) ?_
    intro _ w7 hW
    have hW : WI w2 [] gw (headB r) w7 := hW
    -- a change
    refine st_join (fun _ w' => WI w2 [] gw (headB r ++ chgB r) w') ?_ ?_
    · intro j hj
      obtain ⟨c0, c1, c2, c3, c4, c5, c6, c7, c8, c9, c10, c11⟩ := hA.mono hW.mid
      simp (disch := first | assumption | omega) only [PX, BX, LX, add_mk, Nat.reduceAdd]
      refine st_call (changes_spec _ _) ?_
      rintro _ w8 ⟨rfl, rfl⟩
      simp only [BX]
      refine ⟨fun hc => ?_, fun hc => hj _ _ (by unfold chgB; rw [if_neg hc]; simpa using hW)⟩
      rw [if_pos hc] at k6
      obtain ⟨⟨p1, p2⟩, q1, q2, q3, q4, q5⟩ := k6
      have hak : 0 ≤ r.ak ∧ r.ak < 256 := by rcases q5 with h | h | h <;> omega
      simp (disch := first | assumption | omega) only [PX, BX, LX, add_mk, Nat.reduceAdd, wr16]
      refine st_call (Two_spec r.page.toNat (by omega) (by omega) hW) ?_
      intro _ w9 hW
      obtain ⟨c0, c1, c2, c3, c4, c5, c6, c7, c8, c9, c10, c11⟩ := hA.mono hW.mid
      simp (disch := first | assumption | omega) only [PX, BX, LX, add_mk, Nat.reduceAdd, wr8]
      refine st_call (Byte_spec r.ak.toNat (by simp only [List.length_append, leB_len]; omega) (by omega) hW) ?_
      intro _ w10 hW
      obtain ⟨c0, c1, c2, c3, c4, c5, c6, c7, c8, c9, c10, c11⟩ := hA.mono hW.mid
      simp (disch := first | assumption | omega) only [PX, BX, LX, add_mk, Nat.reduceAdd]
      refine st_call (Text_spec r.key (by simp only [List.length_append, leB_len]; omega) hW) ?_
      intro _ w11 hW
      obtain ⟨c0, c1, c2, c3, c4, c5, c6, c7, c8, c9, c10, c11⟩ := hA.mono hW.mid
      simp (disch := first | assumption | omega) only [PX, BX, LX, add_mk, Nat.reduceAdd]
      refine st_call (Text_spec r.old (by simp only [List.length_append, leB_len, textB_len]; omega) hW) ?_
      intro _ w12 hW
      obtain ⟨c0, c1, c2, c3, c4, c5, c6, c7, c8, c9, c10, c11⟩ := hA.mono hW.mid
      simp (disch := first | assumption | omega) only [PX, BX, LX, add_mk, Nat.reduceAdd]
      refine st_call (Text_spec r.new (by simp only [List.length_append, leB_len, textB_len]; omega) hW) ?_
      intro _ w13 hW
      refine hj _ _ ?_
      unfold chgB
      rw [if_pos hc]
      simpa only [List.append_assoc] using hW
    clear hW
    intro dv vs w8 hW
    unfold rec_Encode_j4
    refine st_join (fun _ w' => WI w2 [] gw (headB r ++ chgB r ++ undoB r) w') ?_ ?_
    · intro j hj
      obtain ⟨c0, c1, c2, c3, c4, c5, c6, c7, c8, c9, c10, c11⟩ := hA.mono hW.mid
      simp (disch := first | assumption | omega) only [PX, BX, LX, add_mk, Nat.reduceAdd]
      refine ⟨fun hc => ?_, fun hc => hj _ _ (by unfold undoB; rw [if_neg hc]; simpa using hW)⟩
      refine st_call (Eight_spec r.undo (by simp; omega) hW) ?_
      intro _ w9 hW
      refine hj _ _ ?_
      unfold undoB
      rw [if_pos hc]
      exact hW
    clear hW
    intro dv vs w9 hW
    unfold rec_Encode_j3
    refine st_join (fun _ w' => WI w2 [] gw (reB r) w') ?_ ?_
    · intro j hj
      obtain ⟨c0, c1, c2, c3, c4, c5, c6, c7, c8, c9, c10, c11⟩ := hA.mono hW.mid
      simp (disch := first | assumption | omega) only [PX, BX, LX, add_mk, Nat.reduceAdd]
      refine ⟨fun hc => ?_, fun hc => hj _ _ (by unfold reB tabB; rw [if_neg hc]; simpa using hW)⟩
      obtain ⟨t1, t2, t3, t4⟩ := k10
      simp only [wrapU8]
      rw [Nat.mod_eq_of_lt (show r.ts.length < 256 by omega)]
      refine st_call (Byte_spec r.ts.length (by simp; omega) (by omega) hW) ?_
      intro _ w10 hW
      obtain ⟨c0, c1, c2, c3, c4, c5, c6, c7, c8, c9, c10, c11⟩ := hA.mono hW.mid
      simp (disch := first | assumption | omega) only [PX, BX, LX, add_mk, Nat.reduceAdd]
      clear c0 c1 c2 c3 c4 c5 c6 c7 c8 c9 c10 c11
      obtain ⟨_, _, he, -, hrt⟩ := hT
      injection he with he1 _ he2
      subst he1 he2
      obtain ⟨_, _, he, -, hrd⟩ := hD
      injection he with he1 _ he2
      subst he1 he2
      have b1 : (headB r ++ chgB r ++ undoB r).length ≤ 118 := by simp only [List.length_append]; omega
      generalize hpre : headB r ++ chgB r ++ undoB r = pre at hW b1
      refine st_loop (fun vs w' => ∃ i : Nat, i ≤ r.ts.length ∧ vs.getD 0 undef = .int .i64 i ∧ WI w2 [] gw (pre ++ leB r.ts.length 1 ++ (r.ts.take i).flatMap txB) w') (fun vs _ => r.ts.length - (intOf (vs.getD 0 undef)).toNat) ⟨0, by omega, rfl, by simpa using hW⟩ ?_
      clear hW
      rintro dv vs w11 - ⟨i, hi, e0, hW⟩
      simp (disch := omega) only [e0, PX, BX]
      refine ⟨fun hlt => ?_, fun hge => ?_⟩
      · have hi' : i < r.ts.length := by omega
        obtain ⟨a, rfl, hc⟩ := row_at (f := txV) (k := 3) (fun _ => rfl) (by omega) hrt hi'
        simp (disch := omega) only [PX]
        rw [step_run (run_tx (hc w11 hW.mid))]
        refine st_alloc ze136 (Upd.refl w11 []) (Owns.nil w11) ?_
        intro g3 w12 hU12 hO12 hg3
        refine st_tx hU12 hO12 0 rfl hg3 ?_
        intro w13 hU13 hO13
        have hW : WI w2 [(g3, txO r.ts[i])] gw _ w13 := hW.push (p := (g3, txO r.ts[i])) hU13 (hO13.at_ 0 rfl) hg3
        have bl : ((r.ts.take i).flatMap txB).length ≤ 64 * 13 := by rw [flat_le txB 13 txB_len, List.length_take]; omega
        obtain ⟨⟨⟨x1, x2⟩, x3, x4, x5, x6⟩, -⟩ := t3 i (by omega) _ (List.getElem?_eq_getElem hi')
        have d0 : w13.cell? ⟨g3, 0, none⟩ = some (.int .i64 r.ts[i].id) := cell_at (WI.front hW (List.mem_singleton.2 rfl))
        simp (disch := first | assumption | omega) only [PX, BX, LX, add_mk, Nat.reduceAdd, wr32]
        refine st_call (Four_spec r.ts[i].id.toNat (by simp only [List.length_append, leB_len]; omega) (by omega) hW) ?_
        intro _ w14 hW
        have d1 : w14.cell? ⟨g3, 1, none⟩ = some (.int .i64 r.ts[i].st) := cell_at (WI.front hW (List.mem_singleton.2 rfl))
        simp (disch := first | assumption | omega) only [PX, BX, LX, add_mk, Nat.reduceAdd, wr8]
        refine st_call (Byte_spec r.ts[i].st.toNat (by simp only [List.length_append, leB_len]; omega) (by omega) hW) ?_
        intro _ w15 hW
        have d2 : w15.cell? ⟨g3, 2, none⟩ = some (.int .u64 (r.ts[i].last : Nat)) := cell_at (WI.front hW (List.mem_singleton.2 rfl))
        simp (disch := first | assumption | omega) only [PX, BX, LX, add_mk, Nat.reduceAdd, w64]
        refine st_call (Eight_spec r.ts[i].last (by simp only [List.length_append, leB_len]; omega) hW) ?_
        intro _ w16 hW
        refine ⟨⟨i + 1, by omega, rfl, ?_⟩, ?_⟩
        · have := hW.pop
          rw [flat_take txB hi']
          unfold txB at this ⊢
          simpa only [List.append_assoc] using this
        · simp only [List.getD_cons_zero, intOf]; omega
      · obtain rfl : i = r.ts.length := by omega
        rw [List.take_length] at hW
        unfold rec_Encode_k2
        clear e0
        have bl : (r.ts.flatMap txB).length ≤ 64 * 13 := by rw [flat_le txB 13 txB_len]; omega
        obtain ⟨c0, c1, c2, c3, c4, c5, c6, c7, c8, c9, c10, c11⟩ := hA.mono hW.mid
        simp (disch := first | assumption | omega) only [PX, BX, LX, add_mk, Nat.reduceAdd, wrapU8]
        rw [Nat.mod_eq_of_lt (show r.ds.length < 256 by omega)]
        refine st_call (Byte_spec r.ds.length (by simp only [List.length_append, leB_len]; omega) (by omega) hW) ?_
        intro _ w10 hW
        obtain ⟨c0, c1, c2, c3, c4, c5, c6, c7, c8, c9, c10, c11⟩ := hA.mono hW.mid
        simp (disch := first | assumption | omega) only [PX, BX, LX, add_mk, Nat.reduceAdd]
        clear c0 c1 c2 c3 c4 c5 c6 c7 c8 c9 c10 c11
        refine st_loop (fun vs w' => ∃ i : Nat, i ≤ r.ds.length ∧ vs.getD 0 undef = .int .i64 i ∧ WI w2 [] gw (pre ++ leB r.ts.length 1 ++ r.ts.flatMap txB ++ leB r.ds.length 1 ++ (r.ds.take i).flatMap diB) w') (fun vs _ => r.ds.length - (intOf (vs.getD 0 undef)).toNat) ⟨0, by omega, rfl, by simpa using hW⟩ ?_
        clear hW dv vs
        rintro dv vs w11 - ⟨i, hi, e0, hW⟩
        simp (disch := omega) only [e0, PX, BX]
        refine ⟨fun hlt => ?_, fun hge => ?_⟩
        · have hi' : i < r.ds.length := by omega
          obtain ⟨a, rfl, hc⟩ := row_at (f := diV) (k := 2) (fun _ => rfl) (by omega) hrd hi'
          simp (disch := omega) only [PX]
          rw [step_run (run_di (hc w11 hW.mid))]
          refine st_alloc ze138 (Upd.refl w11 []) (Owns.nil w11) ?_
          intro g3 w12 hU12 hO12 hg3
          refine st_di hU12 hO12 0 rfl hg3 ?_
          intro w13 hU13 hO13
          have hW : WI w2 [(g3, diO r.ds[i])] gw _ w13 := hW.push (p := (g3, diO r.ds[i])) hU13 (hO13.at_ 0 rfl) hg3
          have bl2 : ((r.ds.take i).flatMap diB).length ≤ 16 * 10 := by rw [flat_le diB 10 diB_len, List.length_take]; omega
          obtain ⟨⟨⟨x1, x2⟩, x5, x6⟩, -⟩ := t4 i (by omega) _ (List.getElem?_eq_getElem hi')
          have d0 : w13.cell? ⟨g3, 0, none⟩ = some (.int .i64 r.ds[i].page) := cell_at (WI.front hW (List.mem_singleton.2 rfl))
          simp (disch := first | assumption | omega) only [PX, BX, LX, add_mk, Nat.reduceAdd, wr16]
          refine st_call (Two_spec r.ds[i].page.toNat (by simp only [List.length_append, leB_len]; omega) (by omega) hW) ?_
          intro _ w14 hW
          have d1 : w14.cell? ⟨g3, 1, none⟩ = some (.int .u64 (r.ds[i].rc : Nat)) := cell_at (WI.front hW (List.mem_singleton.2 rfl))
          simp (disch := first | assumption | omega) only [PX, BX, LX, add_mk, Nat.reduceAdd, w64]
          refine st_call (Eight_spec r.ds[i].rc (by simp only [List.length_append, leB_len]; omega) hW) ?_
          intro _ w16 hW
          refine ⟨⟨i + 1, by omega, rfl, ?_⟩, ?_⟩
          · have := hW.pop
            rw [flat_take diB hi']
            unfold diB at this ⊢
            simpa only [List.append_assoc] using this
          · simp only [List.getD_cons_zero, intOf]; omega
        · obtain rfl : i = r.ds.length := by omega
          rw [List.take_length] at hW
          refine hj _ _ ?_
          unfold reB tabB
          rw [if_pos hc, hpre]
          simpa only [List.append_assoc] using hW
    clear hW
    intro dv vs w10 hW
    unfold rec_Encode_j1
    refine st_call (Done_spec (by have := reB_len hok; omega) hW) ?_
    intro x w11 hN
    exact ⟨x, rfl, NewB.base hN (hU2.trans hW.mid)⟩
  · have e0 : okN (okP r) = 1 := by unfold okN; rw [if_neg hok]
    rw [e0, if_neg hok]
    simp only [PX, BX]
    exact ⟨fun _ => ⟨_, rfl, NewB.nil hU2⟩, fun h => absurd (by decide) h⟩
end Go.Proofs.Ytplpjikcgheiiaa.Rec

/- A record's bytes, as the document has them. -/
namespace Go.Proofs.Ytplpjikcgheiiaa.Rec
open Go Go.Proofs.Ytplpjikcgheiiaa Go.Proofs.Ytplpjikcgheiiaa.Enc Xf Go.RowKit
set_option linter.unusedVariables false
set_option linter.unusedSimpArgs false
set_option maxRecDepth 100000

theorem px_cat {x y : Operand} {a b : List UInt8} {w : World} {K : Value → World → Prop} (h : a.length + b.length ≤ 9223372036854775807) : (std Try.prog).step (sBin .add 9 x y (.string ⟨a.toArray⟩) (.string ⟨b.toArray⟩)) w K = K (.string ⟨(a ++ b).toArray⟩) w := by
  rw [px_sadd (by rw [size_mk, size_mk]; exact h), mk_append]
theorem sx_cat {x y : Operand} {a b : List UInt8} {S : World → Prop} {k : Value → Prop} (hne : ∃ w, S w) (h : a.length + b.length ≤ 9223372036854775807) : (std Try.prog).stepS S (sBin .add 9 x y (.string ⟨a.toArray⟩) (.string ⟨b.toArray⟩)) k = k (.string ⟨(a ++ b).toArray⟩) := by
  rw [sx_sadd (by rw [size_mk, size_mk]; exact h) hne, mk_append]

theorem Bytes_spec (w : World) (v : Value) (r : Re) (hok : okP r) (h : RdRe w v r) : CallsR Try.prog 59 #[v] w fun u w' => u = .string ⟨(reB r).toArray⟩ ∧ Upd w w' [] := by
  obtain ⟨vt, vd, rfl, ⟨At', ct, rfl, hmt, hrt⟩, ⟨Ad, cd, rfl, hmd, hrd⟩⟩ := h
  apply flotillaref05_Bytes_sound
  unfold flotillaref05_Bytes_x
  refine st_box (Upd.refl w []) (Owns.nil w) ?_
  intro g w1 hU1 hO1 hg
  let H := [(g, reO r (.slice At' r.ts.length ct) (.slice Ad r.ds.length cd))]
  have hO1 : Owns w1 H := hO1
  have hok' := hok
  obtain ⟨k1, k2, k3, k4, k5, k6, k7, k8, k9, t1, t2, t3, t4⟩ := hok'
  have l1 := headB_len r
  have l2 := chgB_len hok
  have l3 := undoB_len r
  have l4 := tabB_len hok
  unfold numP at k3
  have htx : 0 ≤ r.txn ∧ r.txn ≤ 1073741824 := by unfold txnP at k7; split at k7 <;> omega
  have hS := SU.drew hU1 hO1
  have hne : ∃ w', SU w H w' := ⟨_, hS⟩
  have D : ∀ w', SU w H w' → At w' g r (.slice At' r.ts.length ct) (.slice Ad r.ds.length cd) := fun w' h => At.of (h.2.at_ 0 rfl)
  have c0 : ∀ w', SU w H w' → w'.cell? ⟨g, 0, none⟩ = some (.int .i64 r.kind) := fun w' h => (D w' h).c0
  have c1 : ∀ w', SU w H w' → w'.cell? ⟨g, 1, none⟩ = some (.int .u64 (r.lsn : Nat)) := fun w' h => (D w' h).c1
  have c2 : ∀ w', SU w H w' → w'.cell? ⟨g, 2, none⟩ = some (.int .i64 r.txn) := fun w' h => (D w' h).c2
  have c3 : ∀ w', SU w H w' → w'.cell? ⟨g, 3, none⟩ = some (.int .u64 (r.prev : Nat)) := fun w' h => (D w' h).c3
  have c5 : ∀ w', SU w H w' → w'.cell? ⟨g, 5, none⟩ = some (.int .i64 r.page) := fun w' h => (D w' h).c5
  have c6 : ∀ w', SU w H w' → w'.cell? ⟨g, 6, none⟩ = some (.int .i64 r.ak) := fun w' h => (D w' h).c6
  have c7 : ∀ w', SU w H w' → w'.cell? ⟨g, 7, none⟩ = some (.string ⟨r.key.toArray⟩) := fun w' h => (D w' h).c7
  have c8 : ∀ w', SU w H w' → w'.cell? ⟨g, 8, none⟩ = some (.string ⟨r.old.toArray⟩) := fun w' h => (D w' h).c8
  have c9 : ∀ w', SU w H w' → w'.cell? ⟨g, 9, none⟩ = some (.string ⟨r.new.toArray⟩) := fun w' h => (D w' h).c9
  have c11 : ∀ w', SU w H w' → w'.cell? ⟨g, 11, none⟩ = some (.slice Ad r.ds.length cd) := fun w' h => (D w' h).c11
  refine st_draw (SU w H) hS ?_
  simp (disch := first | assumption | omega) only [SX, SLX, add_mk, Nat.reduceAdd, wr64]
  refine st_call (refNum_spec _ r.kind.toNat 1 (by omega) (by omega)) ?_
  rintro _ w2 ⟨rfl, hU2⟩
  have hS : SU w H w2 := ⟨hS.1.trans hU2, hS.2.ext hU2⟩
  refine st_same hS ?_
  refine st_call (refNum_spec _ r.lsn 8 (by omega) (by omega)) ?_
  rintro _ w3 ⟨rfl, hU3⟩
  have hS : SU w H w3 := ⟨hS.1.trans hU3, hS.2.ext hU3⟩
  refine st_same hS ?_
  rw [sx_cat hne (by simp only [leB_len]; omega)]
  refine st_call (refNum_spec _ r.txn.toNat 4 (by omega) (by omega)) ?_
  rintro _ w4 ⟨rfl, hU4⟩
  have hS : SU w H w4 := ⟨hS.1.trans hU4, hS.2.ext hU4⟩
  refine st_same hS ?_
  rw [sx_cat hne (by simp only [leB_len, List.length_append]; omega)]
  refine st_call (refNum_spec _ r.prev 8 (by omega) (by omega)) ?_
  rintro _ w5 ⟨rfl, hU5⟩
  have hS : SU w H w5 := ⟨hS.1.trans hU5, hS.2.ext hU5⟩
  refine st_same hS ?_
  rw [sx_cat hne (by simp only [leB_len, List.length_append]; omega), show leB r.kind.toNat 1 ++ leB r.lsn 8 ++ leB r.txn.toNat 4 ++ leB r.prev 8 = headB r from rfl]
  let R : List UInt8 → List Value → World → Prop := fun l vs w' => vs.getD 0 undef = .string ⟨l.toArray⟩ ∧ SU w H w'
  refine st_join (R (headB r ++ chgB r)) ?_ ?_
  · intro j hj
    have s0 := c0 _ hS
    simp (disch := first | assumption | omega) only [PX, BX, LX, add_mk, Nat.reduceAdd]
    refine st_call (Changes_spec _ _) ?_
    rintro _ w8 ⟨rfl, rfl⟩
    simp only [BX]
    refine ⟨fun hc => ?_, fun hc => hj _ _ ⟨by unfold chgB; rw [if_neg hc, List.append_nil]; rfl, hS⟩⟩
    rw [if_pos hc] at k6
    obtain ⟨⟨p1, p2⟩, q1, q2, q3, q4, q5⟩ := k6
    have hak : 0 ≤ r.ak ∧ r.ak < 256 := by rcases q5 with h | h | h <;> omega
    have hS := SU.drew hS.1 hS.2
    refine st_draw (SU w H) hS ?_
    simp (disch := first | assumption | omega) only [SX, SLX, add_mk, Nat.reduceAdd, wr64]
    refine st_call (refNum_spec _ r.page.toNat 2 (by omega) (by omega)) ?_
    rintro _ w2 ⟨rfl, hU2⟩
    have hS : SU w H w2 := ⟨hS.1.trans hU2, hS.2.ext hU2⟩
    refine st_same hS ?_
    rw [sx_cat hne (by simp only [leB_len]; omega)]
    refine st_call (refNum_spec _ r.ak.toNat 1 (by omega) (by omega)) ?_
    rintro _ w3 ⟨rfl, hU3⟩
    have hS : SU w H w3 := ⟨hS.1.trans hU3, hS.2.ext hU3⟩
    refine st_same hS ?_
    rw [sx_cat hne (by simp only [leB_len, List.length_append]; omega)]
    have hS := SU.drew hS.1 hS.2
    refine st_draw (SU w H) hS ?_
    simp (disch := first | assumption | omega) only [SX, SLX, add_mk, Nat.reduceAdd, wr64]
    refine st_call (refText_spec _ r.key) ?_
    rintro _ w4 ⟨rfl, hU4⟩
    have hS : SU w H w4 := ⟨hS.1.trans hU4, hS.2.ext hU4⟩
    refine st_same hS ?_
    rw [sx_cat hne (by simp only [leB_len, List.length_append, textB_len]; omega)]
    refine st_call (refText_spec _ r.old) ?_
    rintro _ w5 ⟨rfl, hU5⟩
    have hS : SU w H w5 := ⟨hS.1.trans hU5, hS.2.ext hU5⟩
    refine st_same hS ?_
    rw [sx_cat hne (by simp only [leB_len, List.length_append, textB_len]; omega)]
    refine st_call (refText_spec _ r.new) ?_
    rintro _ w6 ⟨rfl, hU6⟩
    have hS : SU w H w6 := ⟨hS.1.trans hU6, hS.2.ext hU6⟩
    refine st_same hS ?_
    rw [sx_cat hne (by simp only [leB_len, List.length_append, textB_len]; omega)]
    refine hj _ _ ⟨?_, hS⟩
    unfold chgB
    rw [if_pos hc]
    simp only [List.append_assoc, List.getD_cons_zero]
  clear hS
  rintro dv vs w6 ⟨e0, hS⟩
  unfold flotillaref05_Bytes_j4
  refine st_join (R (headB r ++ chgB r ++ undoB r)) ?_ ?_
  · intro j hj
    have s0 := c0 _ hS
    have s4 := (D _ hS).c4
    simp (disch := first | assumption | omega) only [PX, BX, LX, add_mk, Nat.reduceAdd, e0]
    refine ⟨fun hc => ?_, fun hc => hj _ _ ⟨by unfold undoB; rw [if_neg hc, List.append_nil]; rfl, hS⟩⟩
    refine st_call (refNum_spec _ r.undo 8 (by omega) (by omega)) ?_
    rintro _ w2 ⟨rfl, hU2⟩
    have hS : SU w H w2 := ⟨hS.1.trans hU2, hS.2.ext hU2⟩
    rw [px_cat (by simp only [leB_len, List.length_append]; omega)]
    refine hj _ _ ⟨?_, hS⟩
    unfold undoB
    rw [if_pos hc]
    rfl
  clear hS e0 dv vs
  rintro dv vs w6 ⟨e0, hS⟩
  unfold flotillaref05_Bytes_j3
  refine st_join (R (reB r)) ?_ ?_
  · intro j hj
    have s0 := c0 _ hS
    have s10 := (D _ hS).c10
    simp (disch := first | assumption | omega) only [PX, BX, LX, add_mk, Nat.reduceAdd, e0]
    refine ⟨fun hc => ?_, fun hc => hj _ _ ⟨by unfold reB tabB; rw [if_neg hc, List.append_nil]; rfl, hS⟩⟩
    simp only [wrapU64]
    rw [Nat.mod_eq_of_lt (show r.ts.length < 18446744073709551616 by omega)]
    refine st_call (refNum_spec _ r.ts.length 1 (by omega) (by omega)) ?_
    rintro _ w2 ⟨rfl, hU2⟩
    have hS : SU w H w2 := ⟨hS.1.trans hU2, hS.2.ext hU2⟩
    rw [px_cat (by simp only [leB_len, List.length_append]; omega)]
    have b1 : (headB r ++ chgB r ++ undoB r).length ≤ 118 := by simp only [List.length_append]; omega
    generalize hpre : headB r ++ chgB r ++ undoB r = pre at b1
    clear s0 s10 e0
    refine st_loop (fun vs w' => ∃ i : Nat, i ≤ r.ts.length ∧ vs.getD 0 undef = .string ⟨(pre ++ leB r.ts.length 1 ++ (r.ts.take i).flatMap txB).toArray⟩ ∧ vs.getD 1 undef = .int .i64 i ∧ SU w H w') (fun vs _ => r.ts.length - (intOf (vs.getD 1 undef)).toNat) ⟨0, by omega, by simp, rfl, hS⟩ ?_
    clear hS dv vs
    rintro dv vs w11 - ⟨i, hi, e0, e1, hS⟩
    have s10 := (D _ hS).c10
    simp (disch := first | assumption | omega) only [e0, e1, PX, BX, LX, add_mk, Nat.reduceAdd]
    refine ⟨fun hlt => ?_, fun hge => ?_⟩
    · have hi' : i < r.ts.length := by omega
      obtain ⟨a, rfl, hc'⟩ := row_at (f := txV) (k := 3) (fun _ => rfl) (by omega) hrt hi'
      simp (disch := omega) only [PX]
      rw [step_run (run_tx (hc' w11 hS.1))]
      refine st_alloc ze136 hS.1 hS.2 ?_
      intro g3 w12 hU12 hO12 hg3
      refine st_tx hU12 hO12 0 rfl hg3 ?_
      intro w13 hU13 hO13
      let H2 := (g3, txO r.ts[i]) :: H
      have hO13 : Owns w13 H2 := hO13
      have bl : ((r.ts.take i).flatMap txB).length ≤ 64 * 13 := by rw [flat_le txB 13 txB_len, List.length_take]; omega
      obtain ⟨⟨⟨x1, x2⟩, x3, x4, x5, x6⟩, -⟩ := t3 i (by omega) _ (List.getElem?_eq_getElem hi')
      have hS := SU.drew hU13 hO13
      have hne : ∃ w', SU w H2 w' := ⟨_, hS⟩
      have d0 : ∀ w', SU w H2 w' → w'.cell? ⟨g3, 0, none⟩ = some (.int .i64 r.ts[i].id) := fun w' h => cell_at (h.2.at_ 0 rfl)
      have d1 : ∀ w', SU w H2 w' → w'.cell? ⟨g3, 1, none⟩ = some (.int .i64 r.ts[i].st) := fun w' h => cell_at (h.2.at_ 0 rfl)
      have d2 : ∀ w', SU w H2 w' → w'.cell? ⟨g3, 2, none⟩ = some (.int .u64 (r.ts[i].last : Nat)) := fun w' h => cell_at (h.2.at_ 0 rfl)
      refine st_draw (SU w H2) hS ?_
      simp (disch := first | assumption | omega) only [SX, SLX, add_mk, Nat.reduceAdd, wr64]
      refine st_call (refNum_spec _ r.ts[i].id.toNat 4 (by omega) (by omega)) ?_
      rintro _ w2 ⟨rfl, hU2⟩
      have hS : SU w H2 w2 := ⟨hS.1.trans hU2, hS.2.ext hU2⟩
      refine st_same hS ?_
      rw [sx_cat hne (by simp only [leB_len, List.length_append]; omega)]
      refine st_call (refNum_spec _ r.ts[i].st.toNat 1 (by omega) (by omega)) ?_
      rintro _ w3 ⟨rfl, hU3⟩
      have hS : SU w H2 w3 := ⟨hS.1.trans hU3, hS.2.ext hU3⟩
      refine st_same hS ?_
      rw [sx_cat hne (by simp only [leB_len, List.length_append]; omega)]
      refine st_call (refNum_spec _ r.ts[i].last 8 (by omega) (by omega)) ?_
      rintro _ w4 ⟨rfl, hU4⟩
      have hS : SU w H2 w4 := ⟨hS.1.trans hU4, hS.2.ext hU4⟩
      refine st_same hS ?_
      rw [sx_cat hne (by simp only [leB_len, List.length_append]; omega)]
      simp (disch := omega) only [PX, w64]
      refine ⟨⟨i + 1, by omega, ?_, rfl, hS.1, hS.2.sub (.cons _ (List.Sublist.refl _))⟩, ?_⟩
      · rw [flat_take txB hi']
        unfold txB
        simp only [List.append_assoc, List.getD_cons_zero]
      · simp only [List.getD_cons_zero, List.getD_cons_succ, intOf]; omega
    · obtain rfl : i = r.ts.length := by omega
      rw [List.take_length] at e0 ⊢
      unfold flotillaref05_Bytes_k2
      have bl : (r.ts.flatMap txB).length ≤ 64 * 13 := by rw [flat_le txB 13 txB_len]; omega
      have s11 := c11 _ hS
      simp (disch := first | assumption | omega) only [PX, BX, LX, add_mk, Nat.reduceAdd, wrapU64]
      rw [Nat.mod_eq_of_lt (show r.ds.length < 18446744073709551616 by omega)]
      refine st_call (refNum_spec _ r.ds.length 1 (by omega) (by omega)) ?_
      rintro _ w2 ⟨rfl, hU2⟩
      have hS : SU w H w2 := ⟨hS.1.trans hU2, hS.2.ext hU2⟩
      rw [px_cat (by simp only [leB_len, List.length_append]; omega)]
      clear s10 s11 e0 e1
      refine st_loop (fun vs w' => ∃ i : Nat, i ≤ r.ds.length ∧ vs.getD 0 undef = .string ⟨(pre ++ leB r.ts.length 1 ++ r.ts.flatMap txB ++ leB r.ds.length 1 ++ (r.ds.take i).flatMap diB).toArray⟩ ∧ vs.getD 1 undef = .int .i64 i ∧ SU w H w') (fun vs _ => r.ds.length - (intOf (vs.getD 1 undef)).toNat) ⟨0, by omega, by simp, rfl, hS⟩ ?_
      clear hS dv vs
      rintro dv vs w11 - ⟨i, hi, e0, e1, hS⟩
      have s11 := c11 _ hS
      simp (disch := first | assumption | omega) only [e0, e1, PX, BX, LX, add_mk, Nat.reduceAdd]
      refine ⟨fun hlt => ?_, fun hge => ?_⟩
      · have hi' : i < r.ds.length := by omega
        obtain ⟨a, rfl, hc'⟩ := row_at (f := diV) (k := 2) (fun _ => rfl) (by omega) hrd hi'
        have bl2 : ((r.ds.take i).flatMap diB).length ≤ 16 * 10 := by rw [flat_le diB 10 diB_len, List.length_take]; omega
        obtain ⟨⟨⟨x1, x2⟩, x5, x6⟩, -⟩ := t4 i (by omega) _ (List.getElem?_eq_getElem hi')
        have hS := SU.drew hS.1 hS.2
        have d0 : ∀ w', SU w H w' → w'.cell? (a.add (i * 2)) = some (.int .i64 r.ds[i].page) := fun w' h => hc' w' h.1 0 _ rfl
        have d1 : ∀ w', SU w H w' → w'.cell? ((a.add (i * 2)).add 1) = some (.int .u64 (r.ds[i].rc : Nat)) := fun w' h => hc' w' h.1 1 _ rfl
        refine st_draw (SU w H) hS ?_
        simp (disch := first | assumption | omega) only [SX, SLX, add_mk, Nat.reduceAdd, wr64]
        refine st_call (refNum_spec _ r.ds[i].page.toNat 2 (by omega) (by omega)) ?_
        rintro _ w2 ⟨rfl, hU2⟩
        have hS : SU w H w2 := ⟨hS.1.trans hU2, hS.2.ext hU2⟩
        refine st_same hS ?_
        rw [sx_cat hne (by simp only [leB_len, List.length_append]; omega)]
        refine st_call (refNum_spec _ r.ds[i].rc 8 (by omega) (by omega)) ?_
        rintro _ w4 ⟨rfl, hU4⟩
        have hS : SU w H w4 := ⟨hS.1.trans hU4, hS.2.ext hU4⟩
        refine st_same hS ?_
        rw [sx_cat hne (by simp only [leB_len, List.length_append]; omega)]
        simp (disch := omega) only [PX, w64]
        refine ⟨⟨i + 1, by omega, ?_, rfl, hS⟩, ?_⟩
        · rw [flat_take diB hi']
          unfold diB
          simp only [List.append_assoc, List.getD_cons_zero]
        · simp only [List.getD_cons_zero, List.getD_cons_succ, intOf]; omega
      · obtain rfl : i = r.ds.length := by omega
        rw [List.take_length] at e0 ⊢
        refine hj _ _ ⟨?_, hS⟩
        unfold reB tabB
        rw [if_pos hc, hpre]
        simp only [List.append_assoc, List.getD_cons_zero]
  rintro dv vs w7 ⟨e0, hS⟩
  unfold flotillaref05_Bytes_j1
  exact ⟨e0, hS.1⟩
end Go.Proofs.Ytplpjikcgheiiaa.Rec

/- Frames. -/
namespace Go.Proofs.Ytplpjikcgheiiaa.Rec
open Go Go.Proofs.Ytplpjikcgheiiaa Go.Proofs.Ytplpjikcgheiiaa.Enc Xf Go.RowKit
set_option linter.unusedVariables false
set_option linter.unusedSimpArgs false
set_option maxRecDepth 100000

def sealB (l : List UInt8) : List UInt8 := l ++ Crc.le4 (Crc.more 0 l)
theorem sealB_len (l : List UInt8) : (sealB l).length = l.length + 4 := by simp [sealB, Crc.le4]
def frB (r : Re) : List UInt8 := sealB (leB (reB r).length 2 ++ reB r)
theorem frB_len (r : Re) : (frB r).length = (reB r).length + 6 := by unfold frB; rw [sealB_len, List.length_append, leB_len]; omega
theorem NewB.rd {w w' : World} {r : Value} {l : List UInt8} (h : NewB w w' r l) : Rd w' 1 r l.length (bytesV l) := by
  obtain ⟨hh, h1, h2, _⟩ := h
  exact h1.rd (F := []) (by rw [List.append_nil]; exact h2)
theorem NewB.upd {w w' : World} {r : Value} {l : List UInt8} (h : NewB w w' r l) : Upd w w' [] := by obtain ⟨_, _, _, h, _⟩ := h; exact h
theorem NewB.ofC {w w' : World} {r : Value} {l : List UInt8} (h : Crc.NewBytes w w' r l) : NewB w w' r l := h

theorem Frame_spec (w : World) (v : Value) (r : Re) (h : RdRe w v r) : CallsR Try.prog 67 #[v] w fun u w' => ∃ x, u = .tuple #[x, .int .i64 (okN (okP r) : Nat)] ∧ NewB w w' x (if okP r then frB r else []) := by
  obtain ⟨vt, vd, rfl, hT, hD⟩ := h
  apply rec_Frame_sound
  unfold rec_Frame_x
  refine st_box (Upd.refl w []) (Owns.nil w) ?_
  intro g w1 hU1 hO1 hg
  have hO1 : Owns w1 [(g, reO r vt vd)] := hO1
  rw [step_run (run_re (hO1.at_ 0 rfl))]
  refine st_call (Encode_spec _ _ r (RdRe.blk hO1 hU1 hT hD)) ?_
  rintro _ w2 ⟨x, rfl, hN⟩
  have hU2 := hU1.trans (NewB.upd hN)
  by_cases hok : okP r
  · have e0 : okN (okP r) = 0 := by unfold okN; rw [if_pos hok]
    rw [if_pos hok] at hN ⊢
    rw [e0]
    have hx := NewB.rd hN
    have hlen := reB_len hok
    obtain ⟨Ax, cx, rfl, -⟩ := hx
    have hx := NewB.rd hN
    simp only [PX, BX]
    refine ⟨fun h => absurd rfl h, fun _ => ?_⟩
    refine st_call (New_spec w2) ?_
    rintro _ w3 ⟨gw, rfl, hW⟩
    simp (disch := first | assumption | omega) only [PX, BX, wrapU16]
    rw [Nat.mod_eq_of_lt (by omega)]
    refine st_call (Two_spec (reB r).length (by simp only [List.length_nil]; omega) (by omega) hW) ?_
    intro _ w4 hW
    refine st_call (Done_spec (by simp only [List.length_append, List.length_nil, leB_len]; omega) hW) ?_
    intro y w5 hY
    have hx5 := hx.mono (hW.mid.trans (NewB.upd hY))
    have hU5 := hU2.trans (hW.mid.trans (NewB.upd hY))
    obtain ⟨hh, h1, h2, h3, h4⟩ := hY
    refine Crc.st_app (F := []) h1 (by rw [List.append_nil]; exact h2) h3 (fun p hp => .inr (h4 p hp)) hx5 (by simp only [List.length_append, List.length_nil, leB_len]; omega) ?_
    intro v6 w6 h6 hr6 hO6 hU6 hh6
    rw [List.nil_append, ← List.length_append] at hr6
    refine st_call (Crc.Seal_spec w6 v6 (leB (reB r).length 2 ++ reB r) (by rw [List.length_append, leB_len]; omega) (hr6.rd hO6)) ?_
    intro z w7 hZ
    refine ⟨z, rfl, NewB.base (NewB.ofC hZ) ((hU2.trans hW.mid).trans hU6)⟩
  · have e0 : okN (okP r) = 1 := by unfold okN; rw [if_neg hok]
    rw [e0, if_neg hok]
    simp only [PX, BX]
    exact ⟨fun _ => ⟨_, rfl, NewB.nil hU2⟩, fun h => absurd (by decide) h⟩
theorem rFrame_spec (w : World) (v : Value) (r : Re) (hok : okP r) (h : RdRe w v r) : CallsR Try.prog 28 #[v] w fun u w' => u = .string ⟨(frB r).toArray⟩ ∧ Upd w w' [] := by
  obtain ⟨vt, vd, rfl, hT, hD⟩ := h
  apply flotillaref05_Frame_sound
  unfold flotillaref05_Frame_x
  refine st_box (Upd.refl w []) (Owns.nil w) ?_
  intro g w1 hU1 hO1 hg
  have hO1 : Owns w1 [(g, reO r vt vd)] := hO1
  rw [step_run (run_re (hO1.at_ 0 rfl))]
  refine st_call (Bytes_spec _ _ r hok (RdRe.blk hO1 hU1 hT hD)) ?_
  rintro _ w2 ⟨rfl, hU2⟩
  have hlen := reB_len hok
  simp only [PX, size_mk, wrapU64]
  rw [Nat.mod_eq_of_lt (by omega)]
  refine st_call (refNum_spec _ (reB r).length 2 (by omega) (by omega)) ?_
  rintro _ w3 ⟨rfl, hU3⟩
  rw [px_cat (by rw [leB_len]; omega)]
  refine st_call (Crc.rSeal_spec _ _ (by rw [List.length_append, leB_len]; omega)) ?_
  rintro _ w4 ⟨rfl, hU4⟩
  exact ⟨rfl, ((hU1.trans hU2).trans hU3).trans hU4⟩
end Go.Proofs.Ytplpjikcgheiiaa.Rec

/- must, and the deferred function of Decode. -/
namespace Go.Proofs.Ytplpjikcgheiiaa.Rec
open Go Go.Proofs.Ytplpjikcgheiiaa Xf Go.RowKit
set_option linter.unusedVariables false
set_option linter.unusedSimpArgs false
set_option maxRecDepth 100000
theorem must_ok (w : World) : CallsR Try.prog 104 #[.bool true] w fun _ w' => w' = w := by
  refine calls_of_wp Try.func104 rfl ?_
  apply wp_seq
  apply wp_region
  refine wpO_val (w' := w) (v := .bool true) rfl rfl rfl ?_
  refine wpO_val (w' := w) (v := .bool false) rfl rfl (by kernel_rfl) ?_
  refine wp_cond_false rfl (wp_skip ?_)
  exact ⟨rfl, .tuple #[], by kernel_rfl, _, rfl, rfl⟩
abbrev faultV : Value := .iface 166 (.agg #[.int .i64 5])
theorem must_bad (w : World) : Calls Try.prog 104 #[.bool false] w fun e w' => ∃ c, e = .panicked c ∧ c = [{ v := faultV, recovered := false }] ∧ w' = w := by
  refine calls_of_wp Try.func104 rfl ?_
  apply wp_seq
  apply wp_region
  refine wpO_val (w' := w) (v := .bool false) rfl rfl rfl ?_
  refine wpO_val (w' := w) (v := .bool true) rfl rfl (by kernel_rfl) ?_
  refine wp_cond_true rfl ?_
  apply wp_region
  refine wpO_val (w' := w) (v := .agg #[.int .i64 5]) rfl rfl (by kernel_rfl) ?_
  refine wpO_val (w' := w) (v := faultV) rfl rfl (by kernel_rfl) ?_
  refine wpO_panic (w' := w) (v := faultV) rfl rfl (by kernel_rfl) ?_
  exact ⟨rfl, _, rfl, rfl, rfl⟩
end Go.Proofs.Ytplpjikcgheiiaa.Rec

/- What bytes are as a record: the reading, in plain lists. -/
namespace Go.Proofs.Ytplpjikcgheiiaa.Rec
open Go Go.Proofs.Ytplpjikcgheiiaa Go.Proofs.Ytplpjikcgheiiaa.Enc Xf Go.RowKit
set_option linter.unusedVariables false
set_option linter.unusedSimpArgs false
set_option maxRecDepth 100000

/-- bytes that are left, and the error -/
abbrev Rs := List UInt8 × Nat
def tk (s : Rs) (n : Nat) : Nat × Rs := (leVal (takeR s.1 s.2 n).1, (takeR s.1 s.2 n).2)
def tt (s : Rs) (m : Int) : List UInt8 × Rs := textR s.1 s.2 m
def gHead (s : Rs) : Re × Rs :=
  let a := tk s 1; let b := tk a.2 8; let c := tk b.2 4; let d := tk c.2 8
  ({ re0 with kind := a.1, lsn := b.1, txn := c.1, prev := d.1 }, d.2)
def gChg (r : Re) (s : Rs) : Re × Rs :=
  if chgP r.kind then
    let a := tk s 2; let b := tk a.2 1; let c := tt b.2 16; let d := tt c.2 32; let e := tt d.2 32
    ({ r with page := a.1, ak := b.1, key := c.1, old := d.1, new := e.1 }, e.2)
  else (r, s)
def gUndo (r : Re) (s : Rs) : Re × Rs := if r.kind = 2 then ({ r with undo := (tk s 8).1 }, (tk s 8).2) else (r, s)
def gTx (s : Rs) : Tx × Rs := let a := tk s 4; let b := tk a.2 1; let c := tk b.2 8; (⟨a.1, b.1, c.1⟩, c.2)
def gDi (s : Rs) : Di × Rs := let a := tk s 2; let b := tk a.2 8; (⟨a.1, b.1⟩, b.2)
def many {α : Type} (f : Rs → α × Rs) : Nat → Rs → List α × Rs
  | 0, s => ([], s)
  | n + 1, s => ((many f n s).1 ++ [(f (many f n s).2).1], (f (many f n s).2).2)
def gTab (r : Re) (s : Rs) : Re × Rs :=
  if r.kind = 8 then
    let a := tk s 1; let b := many gTx a.1 a.2; let c := tk b.2 1; let d := many gDi c.1 c.2
    ({ r with ts := b.1, ds := d.1 }, d.2)
  else (r, s)
def gAll (l : List UInt8) : Re × Rs :=
  let a := gHead (l, 0); let b := gChg a.1 a.2; let c := gUndo b.1 b.2; gTab c.1 c.2
/-- is it a record? -/
def isRe (l : List UInt8) : Prop := endR (gAll l).2.1 (gAll l).2.2 = 0 ∧ okP (gAll l).1
noncomputable instance (l : List UInt8) : Decidable (isRe l) := Classical.propDecidable _
noncomputable def decR (l : List UInt8) : Re × Nat := if isRe l then ((gAll l).1, 0) else (re0, 5)

theorem many_len {α : Type} (f : Rs → α × Rs) : ∀ n s, (many f n s).1.length = n
  | 0, s => rfl
  | n + 1, s => by show (_ ++ [_]).length = _; rw [List.length_append, many_len f n s]; rfl
theorem tk_lt (s : Rs) (n : Nat) : (tk s n).1 < 256 ^ n :=
  Nat.lt_of_lt_of_le (leVal_lt _) (Nat.pow_le_pow_right (by omega) (takeR_len s.1 s.2 n))
/-- an error stays -/
theorem tk_err {s : Rs} (n : Nat) (h : s.2 ≠ 0) : tk s n = (0, s) := by unfold tk takeR; rw [if_pos h]; rfl
theorem tt_err {s : Rs} (m : Int) (h : s.2 ≠ 0) : tt s m = ([], s) := by unfold tt textR; rw [if_pos h]
theorem many_err {α : Type} {f : Rs → α × Rs} (hf : ∀ s : Rs, s.2 ≠ 0 → (f s).2 = s) {s : Rs} (h : s.2 ≠ 0) : ∀ n, (many f n s).2 = s
  | 0 => rfl
  | n + 1 => by show (f (many f n s).2).2 = s; rw [many_err hf h n]; exact hf s h
theorem gTx_err (s : Rs) (h : s.2 ≠ 0) : (gTx s).2 = s := by simp [gTx, tk_err _ h]
theorem gDi_err (s : Rs) (h : s.2 ≠ 0) : (gDi s).2 = s := by simp [gDi, tk_err _ h]
theorem gChg_err (r : Re) (s : Rs) (h : s.2 ≠ 0) : (gChg r s).2 = s := by
  unfold gChg; split
  · simp [tk_err _ h, tt_err _ h]
  · rfl
theorem gUndo_err (r : Re) (s : Rs) (h : s.2 ≠ 0) : (gUndo r s).2 = s := by
  unfold gUndo; split
  · simp [tk_err _ h]
  · rfl
theorem gTab_err (r : Re) (s : Rs) (h : s.2 ≠ 0) : (gTab r s).2 = s := by
  unfold gTab; split
  · simp [tk_err _ h, many_err gTx_err h, many_err gDi_err h]
  · rfl
theorem gHead_bad {l : List UInt8} (h : (gHead (l, 0)).2.2 ≠ 0) : ¬ isRe l := by
  intro hr
  have h2 : (gAll l).2 = (gHead (l, 0)).2 := by
    unfold gAll
    simp only
    rw [gTab_err _ _ (by rw [gUndo_err _ _ (by rw [gChg_err _ _ h]; exact h), gChg_err _ _ h]; exact h), gUndo_err _ _ (by rw [gChg_err _ _ h]; exact h), gChg_err _ _ h]
  have := hr.1
  rw [h2] at this
  unfold endR at this
  rw [if_neg (by rintro ⟨h3, _⟩; exact h h3)] at this
  exact h this

/-! what was laid is taken off -/
theorem tk_leB (n k : Nat) (rest : List UInt8) (hn : n < 256 ^ k) : tk (leB n k ++ rest, 0) k = (n, (rest, 0)) := by
  unfold tk; rw [takeR_leB, leVal_leB, Nat.mod_eq_of_lt hn]
theorem tt_textB (s rest : List UInt8) (m : Int) (hm : (s.length : Int) ≤ m) (hs : s.length ≤ 65535) : tt (textB s ++ rest, 0) m = (s, (rest, 0)) := by
  obtain ⟨h1, h2⟩ := textB_parts s rest hs
  have hl : ¬ (textB s ++ rest).length < 2 := by rw [List.length_append, textB_len]; omega
  unfold tt textR
  rw [if_neg (by simp), if_neg hl, h1, h2, leVal_len hs, if_neg (by omega), if_neg (by rw [List.length_append]; omega)]
  simp
theorem gHead_back {r : Re} (h : okP r) (rest : List UInt8) : gHead (headB r ++ rest, 0) = ({ re0 with kind := r.kind, lsn := r.lsn, txn := r.txn, prev := r.prev }, (rest, 0)) := by
  have htx : 0 ≤ r.txn ∧ r.txn ≤ 1073741824 := by have := h.2.2.2.2.2.2.1; unfold txnP at this; split at this <;> omega
  obtain ⟨k1, k2, k3, k4, -⟩ := h
  unfold numP at k3
  unfold gHead headB
  simp only [List.append_assoc]
  rw [tk_leB _ _ _ (by omega)]
  simp only
  rw [tk_leB _ _ _ (by omega)]
  simp only
  rw [tk_leB _ _ _ (by omega)]
  simp only
  rw [tk_leB _ _ _ (by omega)]
  simp only [Prod.mk.injEq, Re.mk.injEq, and_true, true_and]
  omega
theorem gChg_back {r r' : Re} (h : okP r) (hk : r'.kind = r.kind) (rest : List UInt8) (h0 : r'.page = 0 ∧ r'.ak = 0 ∧ r'.key = [] ∧ r'.old = [] ∧ r'.new = []) : gChg r' (chgB r ++ rest, 0) = ({ r' with page := r.page, ak := r.ak, key := r.key, old := r.old, new := r.new }, (rest, 0)) := by
  have h6 := h.2.2.2.2.2.1
  unfold gChg chgB
  rw [hk]
  by_cases hc : chgP r.kind
  · rw [if_pos hc] at h6
    rw [if_pos hc, if_pos hc]
    obtain ⟨⟨p1, p2⟩, q1, q2, q3, q4, q5⟩ := h6
    have hak : 0 ≤ r.ak ∧ r.ak < 256 := by rcases q5 with h | h | h <;> omega
    simp only [List.append_assoc]
    rw [tk_leB _ _ _ (by omega)]
    simp only
    rw [tk_leB _ _ _ (by omega)]
    simp only
    rw [tt_textB _ _ _ (by omega) (by omega)]
    simp only
    rw [tt_textB _ _ _ (by omega) (by omega)]
    simp only
    rw [tt_textB _ _ _ (by omega) (by omega)]
    simp only [Prod.mk.injEq, Re.mk.injEq, and_true, true_and]
    omega
  · rw [if_neg hc] at h6
    rw [if_neg hc, if_neg hc, List.nil_append]
    obtain ⟨a, b, c, d, e⟩ := h6
    obtain ⟨a', b', c', d', e'⟩ := h0
    rw [a, b, c, d, e]
    simp only [Prod.mk.injEq, and_true]
    cases r'
    simp only at a' b' c' d' e'
    simp [a', b', c', d', e']
    exact hk
theorem gUndo_back {r r' : Re} (h : okP r) (hk : r'.kind = r.kind) (rest : List UInt8) (h0 : r'.undo = 0) : gUndo r' (undoB r ++ rest, 0) = ({ r' with undo := r.undo }, (rest, 0)) := by
  have h3 := h.2.2.1
  have h5 := h.2.2.2.2.1
  have h9 := h.2.2.2.2.2.2.2.2.1
  unfold numP at h3
  unfold gUndo undoB
  rw [hk]
  by_cases hc : r.kind = 2
  · rw [if_pos hc, if_pos hc, tk_leB _ _ _ (by omega)]
  · rw [if_neg hc, if_neg hc, List.nil_append, h9 hc]
    cases r'
    simp only at h0
    simp [h0]
    exact hk
theorem many_back {α : Type} {f : Rs → α × Rs} {g : α → List UInt8} {ok : α → Prop} (hfg : ∀ x rest, ok x → f (g x ++ rest, 0) = (x, (rest, 0))) (l : List α) (rest : List UInt8) (h : ∀ x ∈ l, ok x) :
    ∀ n, n ≤ l.length → many f n (l.flatMap g ++ rest, 0) = (l.take n, ((l.drop n).flatMap g ++ rest, 0))
  | 0, _ => rfl
  | n + 1, hn => by
    have ih := many_back hfg l rest h n (by omega)
    have hlt : n < l.length := by omega
    show ((many f n _).1 ++ [(f (many f n _).2).1], (f (many f n _).2).2) = _
    rw [ih]
    simp only
    have hd : (l.drop n).flatMap g = g l[n] ++ (l.drop (n + 1)).flatMap g := by rw [List.drop_eq_getElem_cons hlt, List.flatMap_cons]
    rw [hd, List.append_assoc, hfg _ _ (h _ (List.getElem_mem hlt)), List.take_succ_eq_append_getElem hlt]
theorem gTab_back {r r' : Re} (h : okP r) (hk : r'.kind = r.kind) (h0 : r'.ts = [] ∧ r'.ds = []) : gTab r' (tabB r, 0) = ({ r' with ts := r.ts, ds := r.ds }, ([], 0)) := by
  obtain ⟨t1, t2, t3, t4⟩ := h.2.2.2.2.2.2.2.2.2
  have h8 := h.2.2.2.2.2.2.2.1
  unfold gTab tabB
  rw [hk]
  by_cases hc : r.kind = 8
  · rw [if_pos hc, if_pos hc]
    simp only [List.append_assoc]
    rw [tk_leB _ _ _ (by omega)]
    simp only
    have hts : ∀ x ∈ r.ts, txP x := fun x hx => by
      obtain ⟨i, hi, rfl⟩ := List.mem_iff_getElem.1 hx
      exact (t3 i hi _ (List.getElem?_eq_getElem hi)).1
    have hds : ∀ x ∈ r.ds, diP x := fun x hx => by
      obtain ⟨i, hi, rfl⟩ := List.mem_iff_getElem.1 hx
      exact (t4 i hi _ (List.getElem?_eq_getElem hi)).1
    have f1 : ∀ (x : Tx) rest, txP x → gTx (txB x ++ rest, 0) = (x, (rest, 0)) := by
      rintro ⟨a, b, c⟩ rest ⟨⟨x1, x2⟩, x3, x4, x5, x6⟩
      simp only at x1 x2 x3 x4 x5 x6
      unfold gTx txB
      simp only [List.append_assoc]
      rw [tk_leB _ _ _ (by omega)]
      simp only
      rw [tk_leB _ _ _ (by omega)]
      simp only
      rw [tk_leB _ _ _ (by omega)]
      simp only [Prod.mk.injEq, Tx.mk.injEq, and_true]
      omega
    have f2 : ∀ (x : Di) rest, diP x → gDi (diB x ++ rest, 0) = (x, (rest, 0)) := by
      rintro ⟨a, c⟩ rest ⟨⟨x1, x2⟩, x5, x6⟩
      simp only at x1 x2 x5 x6
      unfold gDi diB
      simp only [List.append_assoc]
      rw [tk_leB _ _ _ (by omega)]
      simp only
      rw [tk_leB _ _ _ (by omega)]
      simp only [Prod.mk.injEq, Di.mk.injEq, and_true]
      omega
    rw [many_back f1 r.ts _ hts _ (Nat.le_refl _)]
    simp only [List.take_length, List.drop_length, List.flatMap_nil, List.nil_append]
    rw [tk_leB _ _ _ (by omega)]
    simp only
    have := many_back f2 r.ds [] hds _ (Nat.le_refl _)
    rw [List.append_nil] at this
    rw [this]
    simp only [List.take_length, List.drop_length, List.flatMap_nil, List.append_nil]
  · rw [if_neg hc, if_neg hc, (h8 hc).1, (h8 hc).2]
    cases r'
    obtain ⟨a, b⟩ := h0
    simp only at a b
    simp [a, b]
    exact hk
theorem gAll_back {r : Re} (h : okP r) : gAll (reB r) = (r, ([], 0)) := by
  unfold gAll reB
  simp only
  rw [List.append_assoc, List.append_assoc, gHead_back h]
  simp only
  rw [gChg_back (r' := { re0 with kind := r.kind, lsn := r.lsn, txn := r.txn, prev := r.prev }) h rfl _ ⟨rfl, rfl, rfl, rfl, rfl⟩]
  simp only
  rw [gUndo_back (r' := { re0 with kind := r.kind, lsn := r.lsn, txn := r.txn, prev := r.prev, page := r.page, ak := r.ak, key := r.key, old := r.old, new := r.new }) h rfl _ rfl]
  simp only
  rw [gTab_back (r' := { re0 with kind := r.kind, lsn := r.lsn, txn := r.txn, prev := r.prev, page := r.page, ak := r.ak, key := r.key, old := r.old, new := r.new, undo := r.undo }) h rfl ⟨rfl, rfl⟩]
theorem decR_back {r : Re} (h : okP r) : isRe (reB r) ∧ decR (reB r) = (r, 0) := by
  have hi : isRe (reB r) := by
    unfold isRe; rw [gAll_back h]; exact ⟨rfl, h⟩
  refine ⟨hi, ?_⟩
  unfold decR; rw [if_pos hi, gAll_back h]
end Go.Proofs.Ytplpjikcgheiiaa.Rec

/- A record is read off: the walk. -/
namespace Go.Proofs.Ytplpjikcgheiiaa.Rec
open Go Go.Proofs.Ytplpjikcgheiiaa Go.Proofs.Ytplpjikcgheiiaa.Enc Xf Go.RowKit
set_option linter.unusedVariables false
set_option linter.unusedSimpArgs false
set_option maxRecDepth 100000

section
variable {W w : World} {F : List (Nat × Obj)} {g : Nat} {hb : List (Nat × Obj)} {s : Rs}
theorem gByte (h : RI W F g hb s.1 s.2 w) : CallsR Try.prog 102 #[.pointer (some ⟨g, 0, none⟩)] w fun u w' => u = .int .u8 ((tk s 1).1 : Nat) ∧ (tk s 1).1 < 256 ∧ RI W F g hb (tk s 1).2.1 (tk s 1).2.2 w' :=
  CallsR.mono (rByte_spec h) fun v w' ⟨h1, h2⟩ => ⟨h2, by have := tk_lt s 1; omega, h1⟩
theorem gTwo (h : RI W F g hb s.1 s.2 w) : CallsR Try.prog 79 #[.pointer (some ⟨g, 0, none⟩)] w fun u w' => u = .int .u16 ((tk s 2).1 : Nat) ∧ (tk s 2).1 < 65536 ∧ RI W F g hb (tk s 2).2.1 (tk s 2).2.2 w' :=
  CallsR.mono (rTwo_spec h) fun v w' ⟨h1, h2⟩ => ⟨h2, by have := tk_lt s 2; omega, h1⟩
theorem gFour (h : RI W F g hb s.1 s.2 w) : CallsR Try.prog 78 #[.pointer (some ⟨g, 0, none⟩)] w fun u w' => u = .int .u32 ((tk s 4).1 : Nat) ∧ (tk s 4).1 < 4294967296 ∧ RI W F g hb (tk s 4).2.1 (tk s 4).2.2 w' :=
  CallsR.mono (rFour_spec h) fun v w' ⟨h1, h2⟩ => ⟨h2, by have := tk_lt s 4; omega, h1⟩
theorem gEight (h : RI W F g hb s.1 s.2 w) : CallsR Try.prog 103 #[.pointer (some ⟨g, 0, none⟩)] w fun u w' => u = .int .u64 ((tk s 8).1 : Nat) ∧ RI W F g hb (tk s 8).2.1 (tk s 8).2.2 w' :=
  CallsR.mono (rEight_spec h) fun v w' ⟨h1, h2⟩ => ⟨h2, h1⟩
theorem gText (m : Int) (h : RI W F g hb s.1 s.2 w) : CallsR Try.prog 105 #[.pointer (some ⟨g, 0, none⟩), .int .i64 m] w fun u w' => u = .string ⟨(tt s m).1.toArray⟩ ∧ RI W F g hb (tt s m).2.1 (tt s m).2.2 w' :=
  CallsR.mono (rText_spec m h) fun v w' ⟨h1, h2⟩ => ⟨h2, h1⟩
end

theorem RI.open_ {W w : World} {F : List (Nat × Obj)} {g e : Nat} {hb : List (Nat × Obj)} {l : List UInt8} (h : RI W F g hb l e w) : ∃ T, Owns w (F ++ T) ∧ Upd W w [] ∧ ∀ w' F', Upd W w' [] → Owns w' (F' ++ T) → RI W F' g hb l e w' := by
  obtain ⟨v, h1, h2, h3, h4⟩ := h
  refine ⟨(g, .cells #[v, .int .i64 (e : Nat)] 163 (0, 0)) :: hb, ?_, h3, fun w' F' hU hO => ⟨v, h1, ?_, hU, h4⟩⟩
  · exact h2.perm (List.perm_append_comm (l₁ := (g, _) :: hb) (l₂ := F))
  · exact hO.perm (List.perm_append_comm (l₁ := F') (l₂ := (g, _) :: hb))
theorem RI.blk {W w : World} {F : List (Nat × Obj)} {g e : Nat} {hb : List (Nat × Obj)} {l : List UInt8} (h : RI W F g hb l e w) {p : Nat × Obj} (hp : p ∈ F) : w.heap[p.1]? = some p.2 := (RI.kept h).2 p hp

/-- a field of the record is set -/
theorem st_fld {W w : World} {F : List (Nat × Obj)} {g gB e off : Nat} {hb : List (Nat × Obj)} {l : List UInt8} {r r' : Re} {vt vd vt' vd' v : Value} {t : TypeId} {K : Value → World → Prop} (hR : RI W ((gB, reO r vt vd) :: F) g hb l e w) (hg : W.heap.size ≤ gB)
    (hn : (Try.prog.info? t).map (·.size) = some 1) (hv : oneB v = true) (hoff : off < 12) (hset : (reV r vt vd).toArray.setIfInBounds off v = (reV r' vt' vd').toArray) (hk : ∀ w', RI W ((gB, reO r' vt' vd') :: F) g hb l e w' → K undef w') :
    (std Try.prog).step (sStore t (.pointer (some ⟨gB, off, none⟩)) v) w K := by
  obtain ⟨T, hO, hU, hc⟩ := RI.open_ hR
  refine st_storeB hn hv hU hO 0 rfl (by simpa [reV] using hoff) (.inr (Nat.zero_le _)) (.inr hg) ?_
  intro w' hU' hO'
  rw [hset] at hO'
  exact hk w' (hc w' _ hU' hO')
theorem row_tx (t : Tx) (w : World) : (sBuildSlice 38 1 [(0, .agg (txV t).toArray)]).run Try.prog w = .ok (.value (.slice (some ⟨w.heap.size, 0, none⟩) 1 1)) (w.alloc (.cells (txV t).toArray 136)) := by kernel_rfl
theorem row_di (t : Di) (w : World) : (sBuildSlice 39 1 [(0, .agg (diV t).toArray)]).run Try.prog w = .ok (.value (.slice (some ⟨w.heap.size, 0, none⟩) 1 1)) (w.alloc (.cells (diV t).toArray 138)) := by kernel_rfl
theorem build_tx (a b : Int) (c : Nat) (w : World) : (sBuild 136 [(0, .int .i64 a), (1, .int .i64 b), (2, .int .u64 (c : Nat))]).run Try.prog w = .ok (.value (.agg (txV ⟨a, b, c⟩).toArray)) w := by kernel_rfl
theorem build_di (a : Int) (c : Nat) (w : World) : (sBuild 138 [(0, .int .i64 a), (1, .int .u64 (c : Nat))]).run Try.prog w = .ok (.value (.agg (diV ⟨a, c⟩).toArray)) w := by kernel_rfl
theorem build_ac4 (k : Int) (a b c : List UInt8) (w : World) : (sBuild 37 [(0, .int .i64 k), (1, .string ⟨a.toArray⟩), (2, .string ⟨b.toArray⟩), (3, .string ⟨c.toArray⟩)]).run Try.prog w = .ok (.value (.agg (acV k a b c).toArray)) w := by kernel_rfl
abbrev nilS : Value := .slice none 0 0
theorem build_head (k t : Int) (l p : Nat) (w : World) : (sBuild 41 [(0, .int .i64 k), (1, .int .u64 (l : Nat)), (2, .int .i64 t), (3, .int .u64 (p : Nat))]).run Try.prog w = .ok (.value (.agg (reV { re0 with kind := k, lsn := l, txn := t, prev := p } nilS nilS).toArray)) w := by kernel_rfl
theorem reV_one (r : Re) {vt vd : Value} (ht : vt.oneCell' = true) (hd : vd.oneCell' = true) : ∀ u ∈ reV r vt vd, u.oneCell' = true := by
  intro u hu
  simp only [reV, List.mem_cons, List.mem_nil_iff, or_false] at hu
  rcases hu with rfl | rfl | rfl | rfl | rfl | rfl | rfl | rfl | rfl | rfl | rfl | rfl <;> first | rfl | assumption
theorem ze_re : (Try.prog.info? 41).bind (·.zero) = some (.agg (reV re0 nilS nilS).toArray) := ze41
/-- a whole record into a variable of its own -/
theorem st_re {w W : World} {h : List (Nat × Obj)} {K : Value → World → Prop} {ks : List Nat} (hU : Upd W w ks) (hO : Owns w h) (i : Nat) {g : Nat} {r0 r : Re} {vt0 vd0 vt vd : Value} (hi : h[i]? = some (g, reO r0 vt0 vd0)) (ht : vt.oneCell' = true) (hd : vd.oneCell' = true) (hg : g ∈ ks ∨ W.heap.size ≤ g)
    (hk : ∀ w', Upd W w' ks → Owns w' (h.set i (g, reO r vt vd)) → K undef w') : (std Try.prog).step (sStore 41 (.pointer (some ⟨g, 0, none⟩)) (.agg (reV r vt vd).toArray)) w K := by
  refine st_storeN (vs := reV r vt vd) (by rw [sz41]; rfl) hU hO i hi (by simp [reV]) (reV_one r ht hd) hg ?_
  exact fun w' hU' hO' => hk w' hU' hO'

/-- a record that is being read -/
def RS (W : World) (g gA gB : Nat) (hb : List (Nat × Obj)) (r : Re) (s : Rs) (w : World) : Prop :=
  ∃ vt vd ht hd, RowH 136 3 vt r.ts.length (r.ts.flatMap txV) ht ∧ RowH 138 2 vd r.ds.length (r.ds.flatMap diV) hd ∧ (∀ p ∈ ht ++ hd, W.heap.size ≤ p.1) ∧ W.heap.size ≤ gA ∧ W.heap.size ≤ gB ∧
    RI W ((gB, reO r vt vd) :: (gA, reO re0 nilS nilS) :: (ht ++ hd)) g hb s.1 s.2 w
theorem RowH.one {e : TypeId} {sz n : Nat} {v : Value} {xs : List Value} {h : List (Nat × Obj)} (hr : RowH e sz v n xs h) : v.oneCell' = true ∧ oneB v = true := by
  obtain ⟨_, ⟨rfl, _⟩ | ⟨_, _, _, rfl, _⟩⟩ := hr <;> exact ⟨rfl, rfl⟩

theorem perm1 {α : Type} (a b : α) (h k T : List α) : List.Perm ((a :: b :: (h ++ k)) ++ T) (h ++ (a :: b :: (k ++ T))) := by
  have : (a :: b :: (h ++ k)) ++ T = [a, b] ++ (h ++ (k ++ T)) := by simp
  rw [this]
  exact List.perm_append_comm_assoc [a, b] h (k ++ T)
theorem perm2 {α : Type} (a b : α) (h k T : List α) : List.Perm ((a :: b :: (h ++ k)) ++ T) (k ++ (a :: b :: (h ++ T))) := by
  have : (a :: b :: (h ++ k)) ++ T = ([a, b] ++ h) ++ (k ++ T) := by simp
  rw [this]
  exact (List.perm_append_comm_assoc ([a, b] ++ h) k T).trans (by simp)
end Go.Proofs.Ytplpjikcgheiiaa.Rec
