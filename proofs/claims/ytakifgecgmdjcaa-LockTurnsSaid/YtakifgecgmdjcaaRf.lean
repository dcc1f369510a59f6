/- Rules for the steps, and for memory. -/
import Derived.Test.YtakifgecgmdjcaaXf
import Derived.WalkKit
import Derived.Maps.AppendAt

/-! ### rules: what the steps do -/

namespace Go.Proofs.Ytakifgecgmdjcaa
open Go Xf
set_option linter.unusedVariables false
set_option linter.unusedSimpArgs false

section
variable {P : Program} {w w' : World} {K : Value → World → Prop} {S : World → Prop} {k : Value → Prop}

theorem step_run {s : Sem Next} {v : Value} (h : s.run P w = .ok (.value v) w') : (std P).step s w K = K v w' := by
  show StepX P s w K = _
  unfold StepX
  rw [h]
theorem step_skip {s : Sem Next} (h : s.run P w = .ok .skip w') : (std P).step s w K = K undef w' := by
  show StepX P s w K = _
  unfold StepX
  rw [h]
theorem stepS_run {s : Sem Next} {v : Value} (hne : ∃ w, S w) (h : ∀ w, S w → s.run P w = .ok (.value v) w) : (std P).stepS S s k = k v := by
  show StepS P S s k = _
  unfold StepS
  refine propext ⟨?_, fun hk => ⟨v, h, hk⟩⟩
  rintro ⟨u, hu, hk⟩
  obtain ⟨w, hw⟩ := hne
  have h1 := (hu w hw).symm.trans (h w hw)
  injection h1 with h1
  injection h1 with h1
  rw [← h1]; exact hk

theorem bool_dec (p : Prop) [Decidable p] (A B : Prop) : (std P).bool (.bool (decide p)) A B = ((p → A) ∧ (¬ p → B)) := by
  show BoolX _ _ _ = _
  unfold BoolX
  by_cases h : p <;> simp [h]
theorem bool_true (A B : Prop) : (std P).bool (.bool true) A B = A := by
  show BoolX _ _ _ = _
  simp [BoolX]
theorem bool_false (A B : Prop) : (std P).bool (.bool false) A B = B := by
  show BoolX _ _ _ = _
  simp [BoolX]
theorem bool_not (b : Bool) (A B : Prop) : (std P).bool (.bool (!b)) A B = (std P).bool (.bool b) B A := by
  show BoolX _ _ _ = BoolX _ _ _
  cases b <;> simp [BoolX]
theorem bool_var (b : Bool) (A B : Prop) : (std P).bool (.bool b) A B = ((b = true → A) ∧ (b = false → B)) := by
  show BoolX _ _ _ = _
  cases b <;> simp [BoolX]

/-! numbers -/

theorem run_sV (s : Sem Value) (w : World) : (sV s).run P w = (s.run P w).andThen fun v w' => .ok (.value v) w' := by
  unfold sV
  rw [Sem.run_bind]
  rfl

theorem r_add {t : TypeId} {x y : Operand} {q : IntKind} {a b : Int} : (sBin .add t x y (.int q a) (.int q b)).run P w = .ok (.value (.int q (q.wrap (a + b)))) w := by
  simp [sBin, run_sV, eqGuard, binOp, Op.intArith]
theorem r_sub {t : TypeId} {x y : Operand} {q : IntKind} {a b : Int} : (sBin .sub t x y (.int q a) (.int q b)).run P w = .ok (.value (.int q (q.wrap (a - b)))) w := by
  simp [sBin, run_sV, eqGuard, binOp, Op.intArith]
theorem r_mul {t : TypeId} {x y : Operand} {q : IntKind} {a b : Int} : (sBin .mul t x y (.int q a) (.int q b)).run P w = .ok (.value (.int q (q.wrap (a * b)))) w := by
  simp [sBin, run_sV, eqGuard, binOp, Op.intArith]
theorem r_quo {t : TypeId} {x y : Operand} {q : IntKind} {a b : Int} (h : b ≠ 0) : (sBin .quo t x y (.int q a) (.int q b)).run P w = .ok (.value (.int q (q.wrap (a.tdiv b)))) w := by
  simp [sBin, run_sV, eqGuard, binOp, Op.intDiv, h]
theorem r_rem {t : TypeId} {x y : Operand} {q : IntKind} {a b : Int} (h : b ≠ 0) : (sBin .rem t x y (.int q a) (.int q b)).run P w = .ok (.value (.int q (a.tmod b))) w := by
  simp [sBin, run_sV, eqGuard, binOp, Op.intDiv, h]
def bitOp (op : BinOp) (q : IntKind) (a b : Int) : Int :=
  let x := BitVec.ofInt q.bits a
  let y := BitVec.ofInt q.bits b
  q.wrap (match op with | .and => (x &&& y).toNat | .or => (x ||| y).toNat | .xor => (x ^^^ y).toNat | .andNot => (x &&& ~~~y).toNat | _ => 0)
theorem r_and {t : TypeId} {x y : Operand} {q : IntKind} {a b : Int} : (sBin .and t x y (.int q a) (.int q b)).run P w = .ok (.value (.int q (bitOp .and q a b))) w := by
  simp [sBin, run_sV, eqGuard, binOp, Op.intBits, bitOp]
theorem r_or {t : TypeId} {x y : Operand} {q : IntKind} {a b : Int} : (sBin .or t x y (.int q a) (.int q b)).run P w = .ok (.value (.int q (bitOp .or q a b))) w := by
  simp [sBin, run_sV, eqGuard, binOp, Op.intBits, bitOp]
theorem r_xor {t : TypeId} {x y : Operand} {q : IntKind} {a b : Int} : (sBin .xor t x y (.int q a) (.int q b)).run P w = .ok (.value (.int q (bitOp .xor q a b))) w := by
  simp [sBin, run_sV, eqGuard, binOp, Op.intBits, bitOp]
theorem r_shl {t : TypeId} {x y : Operand} {q q' : IntKind} {a b : Int} (h : ¬ b < 0) : (sBin .shl t x y (.int q a) (.int q' b)).run P w = .ok (.value (.int q (q.wrap (a * 2 ^ (min b.toNat q.bits))))) w := by
  simp [sBin, run_sV, eqGuard, binOp, Op.shift, h]
theorem r_shr {t : TypeId} {x y : Operand} {q q' : IntKind} {a b : Int} (h : ¬ b < 0) : (sBin .shr t x y (.int q a) (.int q' b)).run P w = .ok (.value (.int q (a.fdiv (2 ^ (min b.toNat q.bits))))) w := by
  simp [sBin, run_sV, eqGuard, binOp, Op.shift, h]
theorem r_lss {t : TypeId} {x y : Operand} {q : IntKind} {a b : Int} : (sBin .lss t x y (.int q a) (.int q b)).run P w = .ok (.value (.bool (decide (a < b)))) w := by
  simp [sBin, run_sV, eqGuard, binOp, Op.intCmp]
theorem r_leq {t : TypeId} {x y : Operand} {q : IntKind} {a b : Int} : (sBin .leq t x y (.int q a) (.int q b)).run P w = .ok (.value (.bool (decide (a ≤ b)))) w := by
  simp [sBin, run_sV, eqGuard, binOp, Op.intCmp]
theorem r_gtr {t : TypeId} {x y : Operand} {q : IntKind} {a b : Int} : (sBin .gtr t x y (.int q a) (.int q b)).run P w = .ok (.value (.bool (decide (b < a)))) w := by
  simp [sBin, run_sV, eqGuard, binOp, Op.intCmp]
theorem r_geq {t : TypeId} {x y : Operand} {q : IntKind} {a b : Int} : (sBin .geq t x y (.int q a) (.int q b)).run P w = .ok (.value (.bool (decide (b ≤ a)))) w := by
  simp [sBin, run_sV, eqGuard, binOp, Op.intCmp]
theorem r_eql {t : TypeId} {x y : Operand} {q : IntKind} {a b : Int} : (sBin .eql t x y (.int q a) (.int q b)).run P w = .ok (.value (.bool (decide (a = b)))) w := by
  simp [sBin, run_sV, eqGuard, binOp, Op.intCmp]
  rfl
theorem r_neq {t : TypeId} {x y : Operand} {q : IntKind} {a b : Int} : (sBin .neq t x y (.int q a) (.int q b)).run P w = .ok (.value (.bool (decide (a ≠ b)))) w := by
  simp [sBin, run_sV, eqGuard, binOp, Op.intCmp]
  rfl
theorem toList_inj (a b : ByteArray) : (a.toList == b.toList) = decide (a = b) := by
  by_cases h : a = b
  · subst h; simp
  · have : a.toList ≠ b.toList := fun e => h (by
      have h2 : a.data.toList = b.data.toList := by rw [← Go.ByteArray.toList_eq, ← Go.ByteArray.toList_eq, e]
      cases a; cases b; simp only at h2; congr 1; exact Array.toList_inj.1 h2)
    simp [h, this]
theorem r_seql {t : TypeId} {x y : Operand} {a b : ByteArray} : (sBin .eql t x y (.string a) (.string b)).run P w = .ok (.value (.bool (decide (a = b)))) w := by
  simp only [sBin, run_sV, eqGuard, binOp, Op.stringOp, toList_inj]
  rfl
theorem r_sneq {t : TypeId} {x y : Operand} {a b : ByteArray} : (sBin .neq t x y (.string a) (.string b)).run P w = .ok (.value (.bool (!decide (a = b)))) w := by
  simp only [sBin, run_sV, eqGuard, binOp, Op.stringOp, toList_inj]
  rfl
theorem r_sadd {t : TypeId} {x y : Operand} {a b : ByteArray} (h : a.size + b.size ≤ 9223372036854775807) : (sBin .add t x y (.string a) (.string b)).run P w = .ok (.value (.string (a ++ b))) w := by
  have h2 : ¬ ((a.size + b.size : Nat) : Int) > IntKind.i64.max := by
    simp [IntKind.max, IntKind.bits, IntKind.signed]; omega
  simp only [sBin, run_sV, eqGuard, binOp, Op.stringOp]
  rw [if_neg h2]
  rfl
theorem r_not {b : Bool} : (sUn .not (.bool b)).run P w = .ok (.value (.bool (!b))) w := by
  simp [sUn, run_sV, Op.unary]
theorem r_neg {q : IntKind} {a : Int} : (sUn .neg (.int q a)).run P w = .ok (.value (.int q (q.wrap (0 - a)))) w := by
  simp [sUn, run_sV, Op.unary, Op.intArith]
theorem r_inv {q : IntKind} {a : Int} : (sUn .xor (.int q a)).run P w = .ok (.value (.int q (bitOp .xor q (if q.signed then -1 else q.max) a))) w := by
  simp [sUn, run_sV, Op.unary, Op.intBits, bitOp]
theorem r_nil {a : Addr} : (sNil (.pointer (some a))).run P w = .ok (.value (.pointer (some a))) w := rfl
theorem r_ext20 {a b : Value} : (sExtract (.tuple #[a, b]) 0).run P w = .ok (.value a) w := rfl
theorem r_ext21 {a b : Value} : (sExtract (.tuple #[a, b]) 1).run P w = .ok (.value b) w := rfl
theorem r_ext30 {a b c : Value} : (sExtract (.tuple #[a, b, c]) 0).run P w = .ok (.value a) w := rfl
theorem r_ext31 {a b c : Value} : (sExtract (.tuple #[a, b, c]) 1).run P w = .ok (.value b) w := rfl
theorem r_ext32 {a b c : Value} : (sExtract (.tuple #[a, b, c]) 2).run P w = .ok (.value c) w := rfl
theorem r_min {ats : Array TypeId} {ty : TypeId} {c : List Bool} {q : IntKind} {a b : Int} : (sBuiltin .min ats ty c [.int q a, .int q b]).run P w = .ok (.value (.int q (if b < a then b else a))) w := by
  simp [sBuiltin, builtin, Builtin.min_, Builtin.min2]
theorem r_max {ats : Array TypeId} {ty : TypeId} {c : List Bool} {q : IntKind} {a b : Int} : (sBuiltin .max ats ty c [.int q a, .int q b]).run P w = .ok (.value (.int q (if a < b then b else a))) w := by
  simp [sBuiltin, builtin, Builtin.max_, Builtin.max2]
/-! with types -/

theorem run_equal_bool {t : TypeId} {a b : Bool} (h : P.underlying t = some .bool) : (Op.equal t (.bool a) (.bool b)).run P w = .ok (a == b) w := by
  show (Op.equalIn (9999 + 1) t (.bool a) (.bool b)).run P w = _
  unfold Op.equalIn
  simp [underlying, program, Sem.run, h]
theorem r_beql {t : TypeId} {x y : Operand} {a b : Bool} (h : P.underlying t = some .bool) : (sBin .eql t x y (.bool a) (.bool b)).run P w = .ok (.value (.bool (a == b))) w := by
  have h1 : sBin .eql t x y (.bool a) (.bool b) = sV (do eqGuard .eql t x y (.bool a) (.bool b); pure (.bool (← Op.equal t (.bool a) (.bool b)))) := rfl
  rw [h1, run_sV, Sem.run_bind]
  simp [eqGuard, run_equal_bool h]
theorem r_bneq {t : TypeId} {x y : Operand} {a b : Bool} (h : P.underlying t = some .bool) : (sBin .neq t x y (.bool a) (.bool b)).run P w = .ok (.value (.bool (!(a == b)))) w := by
  have h1 : sBin .neq t x y (.bool a) (.bool b) = sV (do eqGuard .neq t x y (.bool a) (.bool b); pure (.bool (!(← Op.equal t (.bool a) (.bool b))))) := rfl
  rw [h1, run_sV, Sem.run_bind]
  simp [eqGuard, run_equal_bool h]
theorem r_conv {s d : TypeId} {u : TypeDesc} {q q' : IntKind} {n : Int} (hs : P.underlying s = some u) (hd : P.underlying d = some (.int q')) : (sConv s d (.int q n)).run P w = .ok (.value (.int q' (q'.wrap n))) w := by
  simp only [sConv, run_sV, convert, underlying, program, Sem.run_bind, Sem.run, hs, hd, Result.andThen_ok, Conv.intToInt]
  simp [hs, hd]
theorem r_lens {t ty e : TypeId} {c : List Bool} {A : Option Addr} {n m : Nat} (h : P.underlying t = some (.slice e)) : (sBuiltin .len #[t] ty c [.slice A n m]).run P w = .ok (.value (.int .i64 n)) w := by
  simp [sBuiltin, builtin, Builtin.len_, underlying, program, Sem.run, h, goInt]
theorem r_lenstr {t ty : TypeId} {c : List Bool} {s : ByteArray} (h : P.underlying t = some .string) : (sBuiltin .len #[t] ty c [.string s]).run P w = .ok (.value (.int .i64 s.size)) w := by
  simp [sBuiltin, builtin, Builtin.len_, underlying, program, Sem.run, h, goInt]
theorem r_lenarr {t ty e : TypeId} {c : List Bool} {v : Value} {n : Nat} (h : P.underlying t = some (.array n e)) : (sBuiltin .len #[t] ty c [v]).run P w = .ok (.value (.int .i64 n)) w := by
  simp [sBuiltin, builtin, Builtin.len_, underlying, program, Sem.run, h, goInt]

end
end Go.Proofs.Ytakifgecgmdjcaa

/-! ### memory -/

namespace Go.Proofs.Ytakifgecgmdjcaa
open Go Xf Go.RowKit
set_option linter.unusedVariables false
set_option linter.unusedSimpArgs false

/-- w' is w with new blocks, and with writes to blocks of ks alone. -/
structure Upd (w w' : World) (ks : List Nat) : Prop where
  os : w'.os = w.os
  tape : w'.tape = w.tape
  output : w'.output = w.output
  size : w.heap.size ≤ w'.heap.size
  keep : ∀ b, b < w.heap.size → b ∉ ks → w'.heap[b]? = w.heap[b]?

theorem Upd.refl (w : World) (ks : List Nat) : Upd w w ks := ⟨rfl, rfl, rfl, Nat.le_refl _, fun _ _ _ => rfl⟩
theorem Upd.trans {a b c : World} {ks : List Nat} (h : Upd a b ks) (k : Upd b c ks) : Upd a c ks :=
  ⟨k.os.trans h.os, k.tape.trans h.tape, k.output.trans h.output, Nat.le_trans h.size k.size, fun i hi hn => (k.keep i (Nat.lt_of_lt_of_le hi h.size) hn).trans (h.keep i hi hn)⟩
theorem Upd.mono {a b : World} {ks ls : List Nat} (h : Upd a b ks) (hs : ∀ x ∈ ks, x ∈ ls) : Upd a b ls :=
  ⟨h.os, h.tape, h.output, h.size, fun i hi hn => h.keep i hi fun hm => hn (hs i hm)⟩
theorem Upd.nil {a b : World} (h : Upd a b []) (ks : List Nat) : Upd a b ks := h.mono fun _ hx => by cases hx
/-- a step that writes blocks of the later world's own alone -/
theorem Upd.then_ {a b c : World} {ks ls : List Nat} (h : Upd a b ks) (k : Upd b c ls) (hl : ∀ x ∈ ls, x ∈ ks ∨ a.heap.size ≤ x) : Upd a c ks :=
  ⟨k.os.trans h.os, k.tape.trans h.tape, k.output.trans h.output, Nat.le_trans h.size k.size, fun i hi hn =>
    (k.keep i (Nat.lt_of_lt_of_le hi h.size) fun hm => (hl i hm).elim hn fun hge => absurd hi (Nat.not_lt.2 hge)).trans (h.keep i hi hn)⟩
theorem Upd.drew (w : World) (ks : List Nat) : Upd w w.drew ks := ⟨rfl, rfl, rfl, Nat.le_refl _, fun _ _ _ => rfl⟩
theorem Upd.alloc (w : World) (o : Obj) (ks : List Nat) : Upd w (w.alloc o) ks := ⟨rfl, rfl, rfl, by simp, fun k hk _ => Below.heap_alloc _ _ _ hk⟩
theorem Upd.setCell (w : World) (p : Addr) (v : Value) : Upd w (w.setCell p v) [p.block] := ⟨rfl, rfl, rfl, by simp [World.setCell], fun k hk hn => Below.heap_setCell _ _ _ _ (by simpa using hn)⟩
theorem Upd.below {a b : World} (h : Upd a b []) : Below a.heap.size a b := ⟨h.os, h.tape, h.output, h.size, fun k hk => h.keep k hk (by simp)⟩
theorem Upd.cell {a b : World} {ks : List Nat} (h : Upd a b ks) {p : Addr} (hp : p.block < a.heap.size) (hn : p.block ∉ ks) : b.cell? p = a.cell? p := World.cell?_of_block (h.keep p.block hp hn)

/-- The blocks of h stand in w, each once. -/
def Owns (w : World) (h : List (Nat × Obj)) : Prop := (h.map (·.1)).Nodup ∧ ∀ p ∈ h, w.heap[p.1]? = some p.2

theorem lt_of_some {w : World} {g : Nat} {o : Obj} (h : w.heap[g]? = some o) : g < w.heap.size := by
  rcases Nat.lt_or_ge g w.heap.size with hlt | hge
  · exact hlt
  · rw [Array.getElem?_eq_none hge] at h; cases h

theorem Owns.nil (w : World) : Owns w [] := ⟨List.nodup_nil, fun p hp => by cases hp⟩
theorem Owns.lt {w : World} {h : List (Nat × Obj)} (hO : Owns w h) {p : Nat × Obj} (hp : p ∈ h) : p.1 < w.heap.size := lt_of_some (hO.2 p hp)
theorem Owns.at_ {w : World} {h : List (Nat × Obj)} (hO : Owns w h) (i : Nat) {g : Nat} {o : Obj} (hi : h[i]? = some (g, o)) : w.heap[g]? = some o := hO.2 (g, o) (List.mem_of_getElem? hi)
theorem Owns.upd {w w' : World} {h : List (Nat × Obj)} {ks : List Nat} (hO : Owns w h) (hU : Upd w w' ks) (hd : ∀ p ∈ h, p.1 ∉ ks) : Owns w' h :=
  ⟨hO.1, fun p hp => (hU.keep p.1 (hO.lt hp) (hd p hp)).trans (hO.2 p hp)⟩
theorem Owns.ext {w w' : World} {h : List (Nat × Obj)} (hO : Owns w h) (hU : Upd w w' []) : Owns w' h := hO.upd hU fun _ _ => by simp
theorem Owns.alloc {w : World} {h : List (Nat × Obj)} (hO : Owns w h) (o : Obj) : Owns (w.alloc o) ((w.heap.size, o) :: h) := by
  refine ⟨?_, fun p hp => ?_⟩
  · simp only [List.map_cons]
    refine List.nodup_cons.2 ⟨fun hm => ?_, hO.1⟩
    obtain ⟨p, hp, he⟩ := List.mem_map.1 hm
    have := hO.lt hp
    omega
  · rcases List.mem_cons.1 hp with rfl | hp
    · exact heap_alloc_new w o
    · rw [Below.heap_alloc w o _ (hO.lt hp)]; exact hO.2 p hp
theorem Owns.perm {w : World} {h h' : List (Nat × Obj)} (hO : Owns w h) (hp : h.Perm h') : Owns w h' :=
  ⟨(hp.map _).nodup_iff.1 hO.1, fun p hm => hO.2 p (hp.mem_iff.2 hm)⟩
theorem Owns.sub {w : World} {h h' : List (Nat × Obj)} (hO : Owns w h) (hs : h'.Sublist h) : Owns w h' :=
  ⟨hO.1.sublist (hs.map _), fun p hm => hO.2 p (hs.mem hm)⟩
theorem heap_setCell_at {w : World} {g off : Nat} {cs : Array Value} {t : TypeId} {fr : Nat × Nat} (h : w.heap[g]? = some (.cells cs t fr)) (v : Value) :
    (w.setCell ⟨g, off, none⟩ v).heap[g]? = some (.cells (cs.setIfInBounds off v) t fr) := by
  simp [World.setCell, Array.getElem?_modify, h]
theorem Owns.put {w w' : World} {h : List (Nat × Obj)} (hO : Owns w h) (i : Nat) {g : Nat} {o o' : Obj} (hi : h[i]? = some (g, o)) (hg : w'.heap[g]? = some o') (hother : ∀ k, k ≠ g → w'.heap[k]? = w.heap[k]?) :
    Owns w' (h.set i (g, o')) := by
  have hmap : (h.set i (g, o')).map (·.1) = h.map (·.1) := by
    rw [List.map_set]
    apply List.ext_getElem?
    intro j
    by_cases hj : i = j
    · subst hj
      obtain ⟨hlt, he⟩ := List.getElem?_eq_some_iff.1 hi
      simp [List.getElem?_set, hlt, he]
    · simp [List.getElem?_set, hj]
  refine ⟨by rw [hmap]; exact hO.1, fun p hp => ?_⟩
  obtain ⟨j, hj⟩ := List.getElem?_of_mem hp
  by_cases hij : i = j
  · subst hij
    have hlt := (List.getElem?_eq_some_iff.1 hi).1
    rw [List.getElem?_set_self (by omega)] at hj
    injection hj with hj
    subst hj
    exact hg
  · rw [List.getElem?_set_ne hij] at hj
    have hne : p.1 ≠ g := by
      intro he
      have h1 : (h.map (·.1))[i]? = some g := by simp [hi]
      have h2 : (h.map (·.1))[j]? = some g := by simp [hj, he]
      have hlt : i < (h.map (·.1)).length := (List.getElem?_eq_some_iff.1 h1).1
      exact hij ((List.getElem?_inj hlt hO.1).1 (h1.trans h2.symm))
    rw [hother _ hne]
    exact hO.2 p (List.mem_of_getElem? hj)
theorem Owns.setCell {w : World} {h : List (Nat × Obj)} (hO : Owns w h) (i : Nat) {g off : Nat} {cs : Array Value} {t : TypeId} {fr : Nat × Nat} (hi : h[i]? = some (g, .cells cs t fr)) (v : Value) :
    Owns (w.setCell ⟨g, off, none⟩ v) (h.set i (g, .cells (cs.setIfInBounds off v) t fr)) :=
  hO.put i hi (heap_setCell_at (hO.at_ i hi) v) fun k hk => Below.heap_setCell _ _ _ _ hk
theorem Owns.setRow {w : World} {h : List (Nat × Obj)} (hO : Owns w h) (i : Nat) {g : Nat} {cs : Array Value} {t : TypeId} {fr : Nat × Nat} (hi : h[i]? = some (g, .cells cs t fr)) (vs : Array Value) :
    Owns (w.setRow g vs) (h.set i (g, .cells vs t fr)) :=
  hO.put i hi (setRow_heap w g cs vs t fr (hO.at_ i hi)) fun k hk => setRow_other w g k vs hk
theorem Upd.setRow (w : World) (g : Nat) (vs : Array Value) : Upd w (w.setRow g vs) [g] := ⟨rfl, rfl, rfl, by simp [World.setRow], fun k hk hn => setRow_other w g k vs (by simpa using hn)⟩

theorem cell_at {w : World} {g off : Nat} {cs : Array Value} {t : TypeId} {fr : Nat × Nat} (h : w.heap[g]? = some (.cells cs t fr)) : w.cell? ⟨g, off, none⟩ = cs[off]? := by
  simp [World.cell?, h]

def isAggD : TypeDesc → Bool
  | .struct _ => true
  | .array _ _ => true
  | _ => false

def oneB : Value → Bool
  | .agg _ => false
  | .tuple _ => false
  | _ => true

theorem cells_one {v : Value} (h : oneB v = true) : v.cells = #[v] := by cases v <;> first | rfl | cases h

section
variable {P : Program} {w w' W : World} {K : Value → World → Prop}

theorem run_underlying' {t : TypeId} {u : TypeDesc} (h : P.underlying t = some u) : (underlying t).run P w = .ok u w := by
  simp [underlying, program, Sem.run, h]
theorem run_isAgg {t : TypeId} {b : Bool} (h : (P.underlying t).map isAggD = some b) : (isAgg t).run P w = .ok b w := by
  cases hu : P.underlying t with
  | none => rw [hu] at h; cases h
  | some u =>
    rw [hu] at h
    simp only [Option.map_some, Option.some.injEq] at h
    subst h
    unfold isAgg
    rw [Sem.run_bind, run_underlying' hu]
    cases u <;> rfl
theorem run_sizeOf {t : TypeId} {n : Nat} (h : (P.info? t).map (·.size) = some n) : (sizeOf t).run P w = .ok n w := by
  cases hu : P.info? t with
  | none => rw [hu] at h; cases h
  | some i =>
    rw [hu] at h
    simp only [Option.map_some, Option.some.injEq] at h
    simp [sizeOf, typeInfo, program, Sem.run, hu, h]
theorem run_load1 {a : Addr} {v : Value} (h : w.cell? a = some v) : (load a).run P w = .ok v w := by
  simp [load, Sem.run, h]
theorem run_loadVar1 {t : TypeId} {a : Addr} {v : Value} (ht : (P.underlying t).map isAggD = some false) (h : w.cell? a = some v) : (loadVar t a).run P w = .ok v w := by
  unfold loadVar
  rw [Sem.run_bind, run_isAgg ht]
  simp only [Result.andThen_ok, Bool.false_eq_true, if_false]
  exact run_load1 h
theorem run_loadCells {a : Addr} : ∀ (n i : Nat) (cs : List Value) (acc : Array Value), cs.length = n → (∀ j v, cs[j]? = some v → w.cell? (a.add (i + j)) = some v) → (loadCellsFrom a i n acc).run P w = .ok (acc ++ cs.toArray) w
  | 0, i, cs, acc, hl, h => by
    have : cs = [] := List.eq_nil_of_length_eq_zero hl
    subst this
    simp [loadCellsFrom]
  | n + 1, i, c :: cs, acc, hl, h => by
    unfold loadCellsFrom
    have h0 := h 0 c rfl
    rw [Nat.add_zero] at h0
    rw [Sem.run_bind, run_load1 h0]
    simp only [Result.andThen_ok]
    rw [run_loadCells n (i + 1) cs (acc.push c) (by simpa using hl) (fun j v hj => by rw [Nat.add_assoc, Nat.add_comm 1 j]; exact h (j + 1) v (by simpa using hj))]
    simp
  | n + 1, i, [], acc, hl, h => by simp at hl
theorem run_loadVarN {t : TypeId} {a : Addr} {cs : List Value} (ht : (P.underlying t).map isAggD = some true) (hn : (P.info? t).map (·.size) = some cs.length) (h : ∀ j v, cs[j]? = some v → w.cell? (a.add j) = some v) :
    (loadVar t a).run P w = .ok (.agg cs.toArray) w := by
  unfold loadVar
  rw [Sem.run_bind, run_isAgg ht]
  simp only [Result.andThen_ok, if_true]
  rw [Sem.run_bind, run_sizeOf hn]
  simp only [Result.andThen_ok]
  rw [Sem.run_bind, show loadCells a cs.length = loadCellsFrom a 0 cs.length #[] from rfl, run_loadCells cs.length 0 cs #[] rfl (fun j v hj => by rw [Nat.zero_add]; exact h j v hj)]
  simp

theorem run_sLoad {t : TypeId} {a : Addr} {v : Value} (h : (loadVar t a).run P w = .ok v w) : (sLoad t (.pointer (some a))).run P w = .ok (.value v) w := by
  unfold sLoad Instr.loadAt
  rw [run_sV, Sem.run_bind]
  simp only [Instr.sureAddr, Sem.run_pure, Result.andThen_ok, h]

theorem st_load {t : TypeId} {a : Addr} {v : Value} (ht : (P.underlying t).map isAggD = some false) (h : w.cell? a = some v) (hk : K v w) : (std P).step (sLoad t (.pointer (some a))) w K := by
  rw [step_run (run_sLoad (run_loadVar1 ht h))]; exact hk
theorem st_loadN {t : TypeId} {a : Addr} {cs : List Value} (ht : (P.underlying t).map isAggD = some true) (hn : (P.info? t).map (·.size) = some cs.length) (h : ∀ j v, cs[j]? = some v → w.cell? (a.add j) = some v) (hk : K (.agg cs.toArray) w) :
    (std P).step (sLoad t (.pointer (some a))) w K := by
  rw [step_run (run_sLoad (run_loadVarN ht hn h))]; exact hk
theorem add_zero (a : Addr) : a.add 0 = a := rfl
theorem add_mk (g off n : Nat) : (⟨g, off, none⟩ : Addr).add n = ⟨g, off + n, none⟩ := by
  unfold Addr.add
  by_cases h : n = 0
  · subst h; rfl
  · rw [if_neg h]

/-- a load out of a block that is known -/
theorem st_loadB {t e : TypeId} {h : List (Nat × Obj)} {g off : Nat} {cs : Array Value} {fr : Nat × Nat} {v : Value} (ht : (P.underlying t).map isAggD = some false) (hO : Owns w h) (i : Nat) (hi : h[i]? = some (g, .cells cs e fr)) (hv : cs[off]? = some v) (hk : K v w) :
    (std P).step (sLoad t (.pointer (some ⟨g, off, none⟩))) w K := st_load ht ((cell_at (hO.at_ i hi)).trans hv) hk

theorem run_store1 {a : Addr} {v u : Value} (hv : oneB v = true) (hc : w.cell? a = some u) (hf : w.frozen? a = false) : (store a v).run P w = .ok () (w.setCell a v) := by
  rw [run_store P w a v .plain (by cases v <;> first | rfl | cases hv)]
  simp [stored, hc, hf]
theorem frozen_at {g off : Nat} {cs : Array Value} {t : TypeId} {lo hi : Nat} (h : w.heap[g]? = some (.cells cs t (lo, hi))) (hf : off < lo ∨ hi ≤ off) : w.frozen? ⟨g, off, none⟩ = false := by
  simp only [World.frozen?, h]
  rcases hf with hf | hf
  · simp; omega
  · simp; omega
theorem run_sStore1 {t : TypeId} {a : Addr} {v u : Value} (hn : (P.info? t).map (·.size) = some 1) (hv : oneB v = true) (hc : w.cell? a = some u) (hf : w.frozen? a = false) : (sStore t (.pointer (some a)) v).run P w = .ok .skip (w.setCell a v) := by
  unfold sStore sU Instr.storeAt
  rw [Sem.run_bind, Sem.run_bind]
  simp only [Instr.sureAddr, Sem.run_pure, Result.andThen_ok]
  unfold storeVar
  rw [Sem.run_bind, run_sizeOf hn]
  simp only [Result.andThen_ok, cells_one hv]
  simp only [List.size_toArray, List.length_cons, List.length_nil, Nat.zero_add, ne_eq, not_true, if_false]
  simp only [storeCells, Sem.run_bind, add_zero, run_store1 (P := P) hv hc hf, Result.andThen_ok, Sem.run_pure]

/-- a store into a block that is known -/
theorem st_storeB {t e : TypeId} {h : List (Nat × Obj)} {g off : Nat} {cs : Array Value} {lo hi : Nat} {v : Value} {ks : List Nat} (hn : (P.info? t).map (·.size) = some 1) (hv : oneB v = true) (hU : Upd W w ks) (hO : Owns w h) (i : Nat)
    (hi' : h[i]? = some (g, .cells cs e (lo, hi))) (hoff : off < cs.size) (hf : off < lo ∨ hi ≤ off) (hg : g ∈ ks ∨ W.heap.size ≤ g)
    (hk : ∀ w', Upd W w' ks → Owns w' (h.set i (g, .cells (cs.setIfInBounds off v) e (lo, hi))) → K undef w') : (std P).step (sStore t (.pointer (some ⟨g, off, none⟩)) v) w K := by
  have hb := hO.at_ i hi'
  rw [step_skip (run_sStore1 hn hv ((cell_at hb).trans (Array.getElem?_eq_getElem hoff)) (frozen_at hb hf))]
  exact hk _ (hU.then_ (Upd.setCell _ _ _) fun x hx => by simp at hx; subst hx; exact hg) (hO.setCell i hi' v)

theorem run_newVar {t : TypeId} {v : Value} : (newVar t v).run P w = .ok ⟨w.heap.size, 0, none⟩ (w.alloc (.cells v.cells t)) := by
  unfold newVar newRow newObj
  rw [Sem.run_bind]
  rfl
theorem run_sAlloc {t : TypeId} {z : Value} (hz : (P.info? t).bind (·.zero) = some z) : (sAlloc t).run P w = .ok (.value (.pointer (some ⟨w.heap.size, 0, none⟩))) (w.alloc (.cells z.cells t)) := by
  cases hi : P.info? t with
  | none => rw [hi] at hz; cases hz
  | some i =>
    rw [hi] at hz
    have hz' : i.zero = some z := hz
    have h0 : (zeroValue t).run P w = .ok z w := by simp [zeroValue, typeInfo, program, Sem.run, hi, hz']
    unfold sAlloc Instr.alloc
    rw [run_sV, Sem.run_bind, h0]
    simp only [Result.andThen_ok, Sem.run_bind, run_newVar, Sem.run_pure]
/-- a new variable -/
theorem st_alloc {t : TypeId} {z : Value} {h : List (Nat × Obj)} {ks : List Nat} (hz : (P.info? t).bind (·.zero) = some z) (hU : Upd W w ks) (hO : Owns w h)
    (hk : ∀ g w', Upd W w' ks → Owns w' ((g, .cells z.cells t) :: h) → W.heap.size ≤ g → K (.pointer (some ⟨g, 0, none⟩)) w') : (std P).step (sAlloc t) w K := by
  rw [step_run (run_sAlloc hz)]
  exact hk _ _ (hU.then_ (Upd.alloc _ _ []) fun x hx => by cases hx) (hO.alloc _) hU.size
theorem run_sBox {t : TypeId} {v : Value} : (sBox t v).run P w = .ok (.value (.pointer (some ⟨w.heap.size, 0, none⟩))) (w.alloc (.cells v.cells t)) := by
  unfold sBox Instr.box
  rw [run_sV, Sem.run_bind, run_newVar]
  simp only [Result.andThen_ok, Sem.run_pure]
theorem st_box {t : TypeId} {v : Value} {h : List (Nat × Obj)} {ks : List Nat} (hU : Upd W w ks) (hO : Owns w h)
    (hk : ∀ g w', Upd W w' ks → Owns w' ((g, .cells v.cells t) :: h) → W.heap.size ≤ g → K (.pointer (some ⟨g, 0, none⟩)) w') : (std P).step (sBox t v) w K := by
  rw [step_run run_sBox]
  exact hk _ _ (hU.then_ (Upd.alloc _ _ []) fun x hx => by cases hx) (hO.alloc _) hU.size

end
end Go.Proofs.Ytakifgecgmdjcaa

/-! ### slices -/

namespace Go.Proofs.Ytakifgecgmdjcaa
open Go Xf Go.RowKit
set_option linter.unusedVariables false
set_option linter.unusedSimpArgs false

/-- The slice value v, of n elements of sz cells each, has the cells xs, in the block of h. -/
def RowH (e : TypeId) (sz : Nat) (v : Value) (n : Nat) (xs : List Value) (h : List (Nat × Obj)) : Prop :=
  xs.length = n * sz ∧ ((v = .slice none 0 0 ∧ n = 0 ∧ h = []) ∨
    ∃ g cap cs, v = .slice (some ⟨g, 0, none⟩) n cap ∧ h = [(g, .cells cs e (0, 0))] ∧ n ≤ cap ∧ cap ≤ maxLen ∧ cs.size = cap * sz ∧ cs.toList.take (n * sz) = xs)

/-- The slice value v reads xs in w (sz cells an element). -/
def Rd (w : World) (sz : Nat) (v : Value) (n : Nat) (xs : List Value) : Prop :=
  ∃ A c, v = .slice A n c ∧ n ≤ c ∧ xs.length = n * sz ∧ ∀ j u, xs[j]? = some u → ∃ a, A = some a ∧ w.cell? (a.add j) = some u

theorem Rd.nil_ (w : World) (sz : Nat) : Rd w sz (.slice none 0 0) 0 [] := ⟨none, 0, rfl, Nat.le_refl _, by simp, fun j u h => by simp at h⟩

/-- the same memory read in a later world -/
theorem Rd.mono {w w' : World} {sz : Nat} {v : Value} {n : Nat} {xs : List Value} (h : Rd w sz v n xs) (hU : Upd w w' []) : Rd w' sz v n xs := by
  obtain ⟨A, c, h1, h2, h3, h4⟩ := h
  refine ⟨A, c, h1, h2, h3, fun j u hu => ?_⟩
  obtain ⟨a, ha, hc⟩ := h4 j u hu
  exact ⟨a, ha, by rw [hU.cell (p := a.add j) (World.block_lt_of_cell? w _ hc) (by simp)]; exact hc⟩

/-- the same where blocks from B on are written -/
def RdB (w : World) (B : Nat) (sz : Nat) (v : Value) (n : Nat) (xs : List Value) : Prop :=
  ∃ A c, v = .slice A n c ∧ n ≤ c ∧ xs.length = n * sz ∧ ∀ j u, xs[j]? = some u → ∃ a, A = some a ∧ a.block < B ∧ w.cell? (a.add j) = some u

theorem block_add (a : Addr) (n : Nat) : (a.add n).block = a.block := by unfold Addr.add; split <;> rfl
theorem add_add' (a : Addr) (i j : Nat) : (a.add i).add j = a.add (i + j) := by
  unfold Addr.add
  by_cases hi : i = 0 <;> by_cases hj : j = 0 <;> simp [hi, hj, Nat.add_assoc]

section
variable {P : Program} {w w' W : World} {K : Value → World → Prop} {S : World → Prop} {k : Value → Prop}

theorem RowH.owns {e : TypeId} {sz : Nat} {v : Value} {n : Nat} {xs : List Value} {h F : List (Nat × Obj)} (hr : RowH e sz v n xs h) (hO : Owns w (h ++ F)) : w.ownsRow 0 e sz v n xs := by
  refine ⟨hr.1, ?_⟩
  rcases hr.2 with ⟨h1, h2, _⟩ | ⟨g, cap, cs, h1, rfl, h3, h4, h5, h6⟩
  · exact .inl ⟨h1, h2⟩
  · exact .inr ⟨g, cap, cs, h1, Nat.zero_le _, hO.at_ 0 rfl, h3, h4, h5, h6⟩

theorem RowH.rd {e : TypeId} {sz : Nat} {v : Value} {n : Nat} {xs : List Value} {h F : List (Nat × Obj)} (hr : RowH e sz v n xs h) (hO : Owns w (h ++ F)) : Rd w sz v n xs := by
  rcases hr.2 with ⟨h1, h2, _⟩ | ⟨g, cap, cs, h1, rfl, h3, h4, h5, h6⟩
  · subst h2
    have : xs = [] := List.eq_nil_of_length_eq_zero (by simpa using hr.1)
    subst this
    rw [h1]
    exact Rd.nil_ _ _
  · refine ⟨some ⟨g, 0, none⟩, cap, h1, h3, hr.1, fun j u hu => ⟨_, rfl, ?_⟩⟩
    rw [add_mk, Nat.zero_add, cell_at (hO.at_ 0 rfl)]
    rw [← h6, List.getElem?_take] at hu
    split at hu
    · simpa using hu
    · cases hu

theorem RowH.nil_ (e : TypeId) (sz : Nat) : RowH e sz (.slice none 0 0) 0 [] [] := ⟨by simp, .inl ⟨rfl, rfl, rfl⟩⟩

/-- append onto a row that is known, of what can be read -/
theorem st_append {t e ty : TypeId} {c : List Bool} {i : TypeInfo} {z : Value} {sz bytes : Nat} (ht : P.underlying t = some (.slice e)) (hi : P.info? e = some i) (hz : i.zero = some z) (hs : i.size = sz) (hb : i.bytes = bytes) (hzs : z.cells.size = sz) (hsz : 0 < sz)
    {v u : Value} {n m : Nat} {xs ys : List Value} {h F : List (Nat × Obj)} {ks : List Nat} (hr : RowH e sz v n xs h) (hO : Owns w (h ++ F)) (hU : Upd W w ks) (hh : ∀ p ∈ h, p.1 ∈ ks ∨ W.heap.size ≤ p.1)
    (hrd : Rd w sz u m ys) (h1 : ∀ y ∈ ys, y.oneCell' = true) (h63 : n + m ≤ maxLen) (hby : (n + m) * bytes ≤ 140737488355328)
    (hk : ∀ v' w' h', RowH e sz v' (n + m) (xs ++ ys) h' → Owns w' (h' ++ F) → Upd W w' ks → (∀ p ∈ h', p.1 ∈ ks ∨ W.heap.size ≤ p.1) → K v' w') : (std P).step (sBuiltin .append #[t, t] ty c [v, u]) w K := by
  obtain ⟨A, cc, rfl, hc, hl, hrd⟩ := hrd
  have hown := hr.owns hO
  have key : ∃ v' w', (Builtin.append_ #[t, t] ty #[v, .slice A m cc]).run P w = .ok v' w' ∧ w'.ownsRow 0 e sz v' (n + m) (xs ++ ys) ∧ w.grownBy w' v.ownBlock ∧ (v'.ownBlock = v.ownBlock ∨ v'.ownBlock = some w.heap.size) := by
    cases A with
    | none =>
      have hy : ys = [] := by
        cases ys with
        | nil => rfl
        | cons y ys => obtain ⟨a, ha, _⟩ := hrd 0 y rfl; cases ha
      subst hy
      have hm : m = 0 := by
        rcases Nat.eq_zero_or_pos m with h0 | h0
        · exact h0
        · have := Nat.mul_pos h0 hsz; simp at hl; omega
      subst hm
      refine ⟨v, w, ?_, by simpa using hown, World.grownBy.refl w _, .inl rfl⟩
      rcases hown.2 with ⟨rfl, rfl⟩ | ⟨g, cap, cur, rfl, _, _, hnc, _⟩
      · simp [Builtin.append_, run_underlying ht, sizeOf, typeInfo, hi, Builtin.lenOf, Builtin.firstCells]
      · simp [Builtin.append_, run_underlying ht, sizeOf, typeInfo, hi, Builtin.lenOf, Builtin.firstCells, hnc, storeCells]
    | some a =>
      obtain ⟨v', w', hrun, h2, h3, _, h5⟩ := run_append_own_at (P := P) w 0 t ty e i z sz bytes ht hi hz hs hb hzs hsz v n xs hown a m cc ys hl (fun j u hu => by obtain ⟨a', ha, hcell⟩ := hrd j u hu; cases ha; exact hcell) h1 h63 hby (Nat.zero_le _)
      exact ⟨v', w', hrun, h2, h3, h5⟩
  obtain ⟨v', w', hrun, h2, h3, h5⟩ := key
  have hstep : (sBuiltin .append #[t, t] ty c [v, .slice A m cc]).run P w = .ok (.value v') w' := by
    show (do pure (.value (← Builtin.append_ #[t, t] ty #[v, .slice A m cc])) : Sem Next).run P w = _
    rw [Sem.run_bind, hrun]
    rfl
  rw [step_run hstep]
  -- the block of the row
  have hvb : ∀ b, v.ownBlock = some b → ∃ cs, h = [(b, .cells cs e (0, 0))] := fun b hb => by
    rcases hr.2 with ⟨rfl, _⟩ | ⟨g, cap, cs, rfl, rfl, _⟩
    · cases hb
    · cases hb; exact ⟨cs, rfl⟩
  have hupd : Upd w w' (h.map (·.1)) := ⟨h3.os, h3.tape, h3.output, h3.size, fun b hb hn => h3.block b hb fun he => by
    obtain ⟨cs, rfl⟩ := hvb b he.symm
    exact hn (by simp)⟩
  have hU' : Upd W w' ks := hU.then_ hupd fun x hx => by
    obtain ⟨p, hp, rfl⟩ := List.mem_map.1 hx
    exact hh p hp
  have hOF : Owns w' F := by
    have hF : Owns w F := hO.sub (List.sublist_append_right h F)
    refine hF.upd hupd fun p hp hm => ?_
    have hnd := hO.1
    rw [List.map_append] at hnd
    exact (List.nodup_append.1 hnd).2.2 _ hm _ (List.mem_map_of_mem hp) rfl
  rcases h2.2 with ⟨rfl, hnm⟩ | ⟨g, cap, cur, rfl, _, hg, hn, hcm, hcs, htake⟩
  · exact hk _ _ [] ⟨h2.1, .inl ⟨rfl, hnm, rfl⟩⟩ hOF hU' (fun p hp => by cases hp)
  · refine hk _ _ [(g, .cells cur e (0, 0))] ⟨h2.1, .inr ⟨g, cap, cur, rfl, rfl, hn, hcm, hcs, htake⟩⟩ ⟨?_, ?_⟩ hU' ?_
    · simp only [List.singleton_append, List.map_cons]
      refine List.nodup_cons.2 ⟨fun hm => ?_, hOF.1⟩
      rcases h5 with h5 | h5
      · obtain ⟨cs, rfl⟩ := hvb g h5.symm
        have hnd := hO.1
        simp only [List.singleton_append, List.map_cons] at hnd
        exact (List.nodup_cons.1 hnd).1 hm
      · obtain ⟨p, hp, he⟩ := List.mem_map.1 hm
        have := (hO.sub (List.sublist_append_right h F)).lt hp
        have : g = w.heap.size := by cases h5; rfl
        omega
    · intro p hp
      rcases List.mem_append.1 hp with hp | hp
      · simp at hp; subst hp; exact hg
      · exact hOF.2 p hp
    · intro p hp
      simp at hp
      subst hp
      rcases h5 with h5 | h5
      · obtain ⟨cs, rfl⟩ := hvb g h5.symm
        exact (hh (g, .cells cs e (0, 0)) (by simp) : g ∈ ks ∨ W.heap.size ≤ g)
      · have : g = w.heap.size := by cases h5; rfl
        right
        rw [this]
        exact hU.size

/-! indices -/

theorem asIntOf_run (q : IntKind) (n : Int) : (asIntOf (.int q n)).run P w = .ok (q, n) w := rfl
theorem run_idxS {t e : TypeId} {sz n c : Nat} {a : Addr} {q : IntKind} {i : Int} (ht : P.underlying t = some (.slice e)) (hs : (P.info? e).map (·.size) = some sz) (h0 : 0 ≤ i) (h1 : i < n) :
    (sIndexAddr t (.slice (some a) n c) (.int q i)).run P w = .ok (.value (.pointer (some (a.add (i.toNat * sz))))) w := by
  unfold sIndexAddr Instr.indexAt
  rw [run_sV, Sem.run_bind, asIntOf_run]
  simp only [Result.andThen_ok, Sem.run_bind, run_underlying' ht, Sem.run_pure]
  rw [if_pos ⟨h0, h1⟩]
  simp only [Sem.run_bind, run_sizeOf hs, Result.andThen_ok, Sem.run_pure]
theorem run_idxA {t e : TypeId} {sz n : Nat} {a : Addr} {q : IntKind} {i : Int} (ht : P.underlying t = some (.array n e)) (hs : (P.info? e).map (·.size) = some sz) (h0 : 0 ≤ i) (h1 : i < n) :
    (sIndexAddr t (.pointer (some a)) (.int q i)).run P w = .ok (.value (.pointer (some (a.add (i.toNat * sz))))) w := by
  unfold sIndexAddr Instr.indexAt
  rw [run_sV, Sem.run_bind, asIntOf_run]
  simp only [Result.andThen_ok, Sem.run_bind, run_underlying' ht, Sem.run_pure, Instr.sureAddr]
  rw [if_pos ⟨h0, h1⟩]
  simp only [Sem.run_bind, run_sizeOf hs, Result.andThen_ok, Sem.run_pure]

/-- x[i], x a slice that can be read, its elements of one cell: address and load -/
theorem Rd.at_ {v : Value} {n : Nat} {xs : List Value} (h : Rd w 1 v n xs) {j : Nat} (hj : j < n) : ∃ a c u, v = .slice (some a) n c ∧ xs[j]? = some u ∧ w.cell? (a.add j) = some u := by
  obtain ⟨A, c, rfl, _, hl, hc⟩ := h
  have hlt : j < xs.length := by omega
  obtain ⟨a, rfl, hcell⟩ := hc j xs[j] (List.getElem?_eq_getElem hlt)
  exact ⟨a, c, _, rfl, List.getElem?_eq_getElem hlt, hcell⟩

/-! strings and bytes -/

def bytesV (l : List UInt8) : List Value := l.map fun b => .int .u8 b.toNat
theorem bytesV_len (l : List UInt8) : (bytesV l).length = l.length := by simp [bytesV]
theorem bytesV_one (l : List UInt8) : ∀ y ∈ bytesV l, y.oneCell' = true := by
  intro y hy
  obtain ⟨b, _, rfl⟩ := List.mem_map.1 hy
  rfl

theorem run_str {s d e : TypeId} {v : Value} {n : Nat} {l : List UInt8} (hs : P.underlying s = some (.slice e)) (he : P.underlying e = some (.int .u8)) (hd : P.underlying d = some .string) (h : Rd w 1 v n (bytesV l)) :
    (sConv s d v).run P w = .ok (.value (.string ⟨l.toArray⟩)) w := by
  obtain ⟨A, c, rfl, _, hl, hc⟩ := h
  rw [bytesV_len, Nat.mul_one] at hl
  unfold sConv
  rw [run_sV]
  cases A with
  | none =>
    have : l = [] := by
      cases l with
      | nil => rfl
      | cons b l => obtain ⟨a, ha, _⟩ := hc 0 _ rfl; cases ha
    subst this
    rw [run_convert_bytes_string w s d e none n c hs he hd]
    rfl
  | some a =>
    subst hl
    rw [run_convert_bytes_back w s d e a c l hs he hd (fun j hj => by
      obtain ⟨a', ha, hcell⟩ := hc j (.int .u8 l[j].toNat) (by simp [bytesV, hj])
      cases ha
      exact hcell)]
    rfl

/-- []byte(s): new memory -/
theorem st_bytes {s d e : TypeId} {x : ByteArray} {h : List (Nat × Obj)} {ks : List Nat} (hs : P.underlying s = some .string) (hd : P.underlying d = some (.slice e)) (he : P.underlying e = some (.int .u8)) (hU : Upd W w ks) (hO : Owns w h)
    (hk : ∀ g cap cs m w', Upd W w' ks → Owns w' ((g, .cells cs e (m, m + 1)) :: h) → W.heap.size ≤ g → cs.size ≤ m → x.size ≤ cap → cs.toList.take x.size = bytesV x.data.toList → x.size ≤ cs.size → K (.slice (some ⟨g, 0, none⟩) x.size cap) w') : (std P).step (sConv s d (.string x)) w K := by
  have hr := run_bytes_of_string (P := P) w s d e x hs hd he
  have hstep : (sConv s d (.string x)).run P w = .ok (.value (.slice (some ⟨w.heap.size, 0, none⟩) x.size (grownCap w x.size 0 e)))
      (w.drew.alloc (.cells (bytesRow x (grownCap w x.size 0 e)) e ((bytesRow x (grownCap w x.size 0 e)).size, (bytesRow x (grownCap w x.size 0 e)).size + 1))) := by
    unfold sConv
    rw [run_sV, hr]
    rfl
  rw [step_run hstep]
  have hge := grownCap_ge w x.size 0 e
  have hO' : Owns w.drew h := hO.ext (Upd.drew w [])
  refine hk w.heap.size _ (bytesRow x (grownCap w x.size 0 e)) (bytesRow x (grownCap w x.size 0 e)).size _ ?_ (hO'.alloc _) hU.size (Nat.le_refl _) hge ?_ ?_
  · exact (hU.then_ (Upd.drew w []) fun x hx => by cases hx).then_ (Upd.alloc _ _ []) fun x hx => by cases hx
  · simp [bytesRow, bytesV]
  · simp [bytesRow]


theorem bytes_getElem? (l : List UInt8) (i : Nat) : (⟨l.toArray⟩ : ByteArray)[i]? = l[i]? := by
  by_cases h : i < l.length
  · have h2 : i < (⟨l.toArray⟩ : ByteArray).size := by simpa [ByteArray.size] using h
    rw [getElem?_pos (⟨l.toArray⟩ : ByteArray) i h2, List.getElem?_eq_getElem h]
    rfl
  · have h2 : ¬ i < (⟨l.toArray⟩ : ByteArray).size := by simpa [ByteArray.size] using h
    rw [getElem?_neg (⟨l.toArray⟩ : ByteArray) i h2, List.getElem?_eq_none (by omega)]
theorem run_idxStr {t : TypeId} {l : List UInt8} {q : IntKind} {i : Int} {b : UInt8} (ht : P.underlying t = some .string) (h0 : 0 ≤ i) (hb : l[i.toNat]? = some b) :
    (sIndex t (.string ⟨l.toArray⟩) (.int q i)).run P w = .ok (.value (.int .u8 b.toNat)) w := by
  unfold sIndex Instr.index
  rw [run_sV, Sem.run_bind, asIntOf_run]
  simp only [Result.andThen_ok, Sem.run_bind, run_underlying' ht, Sem.run_pure]
  rw [if_pos h0, bytes_getElem?, hb]
  rfl
theorem size_mk (l : List UInt8) : (⟨l.toArray⟩ : ByteArray).size = l.length := by simp [ByteArray.size]
theorem mk_append (a b : List UInt8) : (⟨a.toArray⟩ : ByteArray) ++ ⟨b.toArray⟩ = ⟨(a ++ b).toArray⟩ := by
  apply ByteArray.ext
  simp
theorem mk_inj {a b : List UInt8} : ((⟨a.toArray⟩ : ByteArray) = ⟨b.toArray⟩) ↔ a = b := by
  constructor
  · intro h
    have := congrArg (fun x => x.data.toList) h
    simpa using this
  · rintro rfl; rfl
theorem mk_surj (s : ByteArray) : ∃ l : List UInt8, s = ⟨l.toArray⟩ := ⟨s.data.toList, by cases s; simp⟩

theorem tdiv_nat (n k : Nat) : Int.tdiv (n : Int) (k : Int) = ((n / k : Nat) : Int) := rfl
theorem tmod_nat (n k : Nat) : Int.tmod (n : Int) (k : Int) = ((n % k : Nat) : Int) := rfl

/-! slice expressions -/
theorem sliceBound_run {y : Nat} {code : BoundsCode} {q : IntKind} {i : Int} (h0 : 0 ≤ i) (h1 : i ≤ y) : (Instr.sliceBound (.int q i) y code).run P w = .ok i.toNat w := by
  unfold Instr.sliceBound
  rw [Sem.run_bind, asIntOf_run]
  simp only [Result.andThen_ok]
  rw [if_pos ⟨h0, h1⟩]
  rfl
/-- x[:hi] -/
theorem run_sliceTo {t e : TypeId} {sz n c : Nat} {A : Option Addr} {q : IntKind} {i : Int} (ht : P.underlying t = some (.slice e)) (hs : (P.info? e).map (·.size) = some sz) (h0 : 0 ≤ i) (h1 : i ≤ c) :
    (sSlice t (.slice A n c) none (some (.int q i)) none).run P w = .ok (.value (.slice (if c = 0 then A else A.map (·.add 0)) i.toNat c)) w := by
  unfold sSlice Instr.sliceAt
  rw [run_sV, Sem.run_bind, run_underlying' ht]
  simp only [Result.andThen_ok, Instr.slice, Sem.run_bind, run_underlying' ht, Instr.sliceBounds, Sem.run_pure, sliceBound_run h0 h1, run_sizeOf hs, Nat.zero_mul, Nat.sub_zero]
/-- x[lo:] -/
theorem run_sliceFrom {t e : TypeId} {sz n c : Nat} {A : Option Addr} {q : IntKind} {i : Int} (ht : P.underlying t = some (.slice e)) (hs : (P.info? e).map (·.size) = some sz) (h0 : 0 ≤ i) (h1 : i ≤ n) (hn : n ≤ c) :
    (sSlice t (.slice A n c) (some (.int q i)) none none).run P w = .ok (.value (.slice (if c = i.toNat then A else A.map (·.add (i.toNat * sz))) (n - i.toNat) (c - i.toNat))) w := by
  unfold sSlice Instr.sliceAt
  rw [run_sV, Sem.run_bind, run_underlying' ht]
  simp only [Result.andThen_ok, Instr.slice, Sem.run_bind, run_underlying' ht, Instr.sliceBounds, Sem.run_pure, sliceBound_run h0 h1, run_sizeOf hs]
theorem Rd.take {sz : Nat} {A : Option Addr} {n c i : Nat} {xs : List Value} (h : Rd w sz (.slice A n c) n xs) (hi : i ≤ n) : Rd w sz (.slice (if c = 0 then A else A.map (·.add 0)) i c) i (xs.take (i * sz)) := by
  obtain ⟨A', c', he, hc, hl, hr⟩ := h
  cases he
  have hA : (if c = 0 then A else A.map (·.add 0)) = A := by
    split
    · rfl
    · cases A <;> rfl
  rw [hA]
  refine ⟨A, c, rfl, by omega, ?_, fun j u hu => ?_⟩
  · rw [List.length_take, hl]
    exact Nat.min_eq_left (Nat.mul_le_mul_right _ hi)
  · rw [List.getElem?_take] at hu
    split at hu
    · exact hr j u hu
    · cases hu
theorem Rd.drop {sz : Nat} {A : Option Addr} {n c i : Nat} {xs : List Value} (h : Rd w sz (.slice A n c) n xs) (hi : i ≤ n) : Rd w sz (.slice (if c = i then A else A.map (·.add (i * sz))) (n - i) (c - i)) (n - i) (xs.drop (i * sz)) := by
  obtain ⟨A', c', he, hc, hl, hr⟩ := h
  cases he
  refine ⟨_, _, rfl, by omega, ?_, fun j u hu => ?_⟩
  · rw [List.length_drop, hl, Nat.sub_mul]
  · rw [List.getElem?_drop] at hu
    obtain ⟨a, rfl, hcell⟩ := hr _ u hu
    have hlt := (List.getElem?_eq_some_iff.1 hu).1
    rw [hl] at hlt
    have hne : c ≠ i := by
      rintro rfl
      have : n = c := by omega
      subst this
      omega
    rw [if_neg hne]
    exact ⟨_, rfl, by rw [add_add']; exact hcell⟩

/-- a []byte that came in, as the rows hand it over -/
theorem rd_of_nums {a : Option Addr} {len cap : Nat} {zs : List Int}
    (h : (a = none ∧ len = 0 ∧ cap = 0 ∧ zs = []) ∨ ∃ x, a = some x ∧ len ≤ cap ∧ cap ≤ maxLen ∧ zs.length = cap ∧ (∀ i, i < zs.length → w.cell? (x.add i) = some (.int .u8 (zs.getD i 0))) ∧ ∀ n ∈ zs, (Lit.int .u8 n).wf = true) :
    ∃ l : List UInt8, l.length = len ∧ l.length ≤ maxLen ∧ Rd w 1 (.slice a len cap) len (bytesV l) := by
  rcases h with ⟨rfl, rfl, rfl, rfl⟩ | ⟨x, rfl, hl, hm, hz, hc, hw⟩
  · exact ⟨[], rfl, Nat.zero_le _, Rd.nil_ _ _⟩
  · refine ⟨(zs.take len).map fun n => UInt8.ofNat n.toNat, by simp; omega, by simp; omega, some x, cap, rfl, hl, by simp [bytesV]; omega, fun j u hu => ⟨x, rfl, ?_⟩⟩
    have hj : j < len := by
      have := (List.getElem?_eq_some_iff.1 hu).1
      simp [bytesV] at this
      omega
    have hj2 : j < zs.length := by omega
    rw [hc j hj2]
    have hwf := hw zs[j] (List.getElem_mem hj2)
    have hb : 0 ≤ zs[j] ∧ zs[j] < 256 := by
      simp [Lit.wf, IntKind.min, IntKind.max, IntKind.bits, IntKind.signed] at hwf
      omega
    simp [bytesV, List.getElem?_take, hj, hj2] at hu ⊢
    rw [← hu]
    congr 1
    omega

end
end Go.Proofs.Ytakifgecgmdjcaa

/-! ### rules for what holds steps together -/

namespace Go.Proofs.Ytakifgecgmdjcaa
open Go Xf Go.RowKit
set_option linter.unusedVariables false
set_option linter.unusedSimpArgs false

section
variable {P : Program} {w w' W : World} {K : Value → World → Prop} {S : World → Prop} {k : Value → Prop}

theorem st_loop {init : List Value} {body : (Nat → Value) → List Value → World → (List Value → World → Prop) → Prop} (I : List Value → World → Prop) (μ : List Value → World → Nat) (h0 : I init w)
    (hr : ∀ dv vs w, vs.length = init.length → I vs w → body dv vs w fun vs' w' => I vs' w' ∧ μ vs' w' < μ vs w) : (std P).loop init w body := ⟨I, μ, h0, hr⟩
theorem st_call {f : FuncId} {args : Array Value} {R : Value → World → Prop} (h : CallsR P f args w R) (hk : ∀ v w', R v w' → K v w') : (std P).calls f args w K := CallsR.mono h hk
theorem st_draw {k : (World → Prop) → World → Prop} (S : World → Prop) (hS : S w.drew) (hk : k S w.drew) : (std P).draw w k := ⟨S, hS, hk⟩
theorem st_keepT {k : (World → Prop) → Prop} (S : World → Prop) (hS : S w) (hk : k S) : (std P).keepT w k := ⟨S, hS, hk⟩
theorem st_keepS {k : (World → Prop) → Prop} (S' : World → Prop) (h : ∀ w, S' w → S w) (hS : S' w) (hk : k S') : (std P).keepS S w k := ⟨S', h, hS, hk⟩
theorem st_same {k : (World → Prop) → Prop} (hS : S w) (hk : k S) : (std P).keepS S w k := ⟨S, fun _ h => h, hS, hk⟩
theorem join_std {k : (Nat → Value) → List Value → World → Prop} {b : (List Value → World → Prop) → Prop} : (std P).join k b = b fun vs w => ∀ dv, k dv vs w := rfl
theorem st_loadR {t : TypeId} {a : Addr} {u : Value} (h : (loadVar t a).run P w = .ok u w) (hk : k u) : (std P).loadR t (.pointer (some a)) w k := ⟨u, by rw [Sem.run_bind]; exact h, hk⟩

theorem cells_read {g : Nat} {cs : Array Value} {e : TypeId} {fr : Nat × Nat} (h : w.heap[g]? = some (.cells cs e fr)) : ∀ j v, cs.toList[j]? = some v → w.cell? ((⟨g, 0, none⟩ : Addr).add j) = some v := by
  intro j v hj
  rw [add_mk, Nat.zero_add, cell_at h]
  simpa using hj

theorem run_storeN {t e : TypeId} {g off : Nat} {cs : Array Value} {vs : List Value} (hn : (P.info? t).map (·.size) = some vs.length) (hb : w.heap[g]? = some (.cells cs e (0, 0))) (hl : off + vs.length ≤ cs.size) (h1 : ∀ u ∈ vs, u.oneCell' = true) :
    (sStore t (.pointer (some ⟨g, off, none⟩)) (.agg vs.toArray)).run P w = .ok .skip (w.setRow g (cs.toList.take off ++ vs ++ cs.toList.drop (off + vs.length)).toArray) := by
  have hst := run_storeCells_at P g off e vs 0 cs w hb (by simpa using hl) h1
  unfold sStore sU Instr.storeAt
  rw [Sem.run_bind, Sem.run_bind]
  simp only [Instr.sureAddr, Sem.run_pure, Result.andThen_ok]
  unfold storeVar
  rw [Sem.run_bind, run_sizeOf hn]
  have hc : (Value.agg vs.toArray).cells = vs.toArray := rfl
  simp only [Result.andThen_ok, hc, List.size_toArray, ne_eq, not_true, if_false, Nat.add_zero] at hst ⊢
  rw [hst]
  rfl

/-- a struct or an array stored into a block that is known -/
theorem st_storeN {t e : TypeId} {h : List (Nat × Obj)} {g off : Nat} {cs : Array Value} {vs : List Value} {ks : List Nat} (hn : (P.info? t).map (·.size) = some vs.length) (hU : Upd W w ks) (hO : Owns w h) (i : Nat)
    (hi : h[i]? = some (g, .cells cs e (0, 0))) (hl : off + vs.length ≤ cs.size) (h1 : ∀ u ∈ vs, u.oneCell' = true) (hg : g ∈ ks ∨ W.heap.size ≤ g)
    (hk : ∀ w', Upd W w' ks → Owns w' (h.set i (g, .cells (cs.toList.take off ++ vs ++ cs.toList.drop (off + vs.length)).toArray e (0, 0))) → K undef w') : (std P).step (sStore t (.pointer (some ⟨g, off, none⟩)) (.agg vs.toArray)) w K := by
  rw [step_skip (run_storeN hn (hO.at_ i hi) hl h1)]
  exact hk _ (hU.then_ (Upd.setRow _ _ _) fun x hx => by simp at hx; subst hx; exact hg) (hO.setRow i hi _)


theorem calls_mono {f : FuncId} {args : Array Value} {k : Value → World → Prop} {R : Ending → World → Prop} (h : CallsR P f args w k) (hr : ∀ v w', k v w' → R (.returned v) w') : Calls P f args w R :=
  Calls.mono h fun e w' ⟨v, he, hv⟩ => he ▸ hr v w' hv

theorem st_newRow {s : Sem Next} {e : TypeId} {cs : Array Value} {n c : Nat} {h : List (Nat × Obj)} {ks : List Nat} (hr : ∀ w, s.run P w = .ok (.value (.slice (some ⟨w.heap.size, 0, none⟩) n c)) (w.alloc (.cells cs e))) (hU : Upd W w ks) (hO : Owns w h)
    (hk : ∀ g w', Upd W w' ks → Owns w' ((g, .cells cs e) :: h) → W.heap.size ≤ g → K (.slice (some ⟨g, 0, none⟩) n c) w') : (std P).step s w K := by
  rw [step_run (hr w)]
  exact hk _ _ (hU.then_ (Upd.alloc _ _ []) fun x hx => by cases hx) (hO.alloc _) hU.size

/-- []byte("..") of a constant: the row is marked behind its end -/
theorem st_stringish {t e : TypeId} {g n c : Nat} {cs : Array Value} {h : List (Nat × Obj)} {ks : List Nat} (ht : P.underlying t = some (.slice e)) (he : P.underlying e = some (.int .u8)) (hU : Upd W w ks) (hO : Owns w ((g, .cells cs e (0, 0)) :: h)) (hg : g ∈ ks ∨ W.heap.size ≤ g)
    (hk : ∀ w', Upd W w' ks → Owns w' ((g, .cells cs e (cs.size, cs.size + 1)) :: h) → K (.slice (some ⟨g, 0, none⟩) n c) w') : (std P).step (sConv t t (.slice (some ⟨g, 0, none⟩) n c)) w K := by
  have hb := hO.at_ 0 rfl
  have hsh : w.shape? g = some (e, cs.size) := by simp [World.shape?, hb]
  have hrun : (sConv t t (.slice (some ⟨g, 0, none⟩) n c)).run P w = .ok (.value (.slice (some ⟨g, 0, none⟩) n c)) (w.freeze ⟨g, cs.size, none⟩ 1) := by
    unfold sConv convert
    rw [run_sV]
    simp [run_underlying' ht, run_underlying' he, markStringish, shape, freeze, Sem.run, hsh]
  rw [step_run hrun]
  have hfr : (w.freeze ⟨g, cs.size, none⟩ 1).heap[g]? = some (.cells cs e (cs.size, cs.size + 1)) := by
    simp [World.freeze, Array.getElem?_modify, hb]
  have hot : ∀ k, k ≠ g → (w.freeze ⟨g, cs.size, none⟩ 1).heap[k]? = w.heap[k]? := fun k hk => by
    simp [World.freeze, Array.getElem?_modify, Ne.symm hk]
  refine hk _ (hU.then_ (ls := [g]) ⟨rfl, rfl, rfl, by simp [World.freeze], fun k _ hn => hot k (by simpa using hn)⟩ fun x hx => by simp at hx; subst hx; exact hg) ?_
  have := hO.put 0 (o' := .cells cs e (cs.size, cs.size + 1)) rfl hfr hot
  simpa using this

end
end Go.Proofs.Ytakifgecgmdjcaa
