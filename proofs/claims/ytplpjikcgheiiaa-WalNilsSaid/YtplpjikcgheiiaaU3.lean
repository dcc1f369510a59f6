/- Texts of this work, put together: Rf, F, P, O. -/
import Derived.Test.YtplpjikcgheiiaaU2
import Derived.WalkKit
import Derived.Maps.AppendAt
import Derived.Test.YtplpjikcgheiiaaProg
import Derived.KernelRfl
import Derived.Tactics
import Derived.Tactics2
import Derived.Defers
import Derived.Recover
import Derived.Deep.Slices
import Derived.OpenShut
/- Rules for the steps, and for memory. -/

/-! ### rules: what the steps do -/

namespace Go.Proofs.Ytplpjikcgheiiaa
open Go Xf
set_option linter.unusedVariables false
set_option linter.unusedSimpArgs false

section
variable {P : Program} {w w' : World} {K : Value → World → Prop} {S : World → Prop} {k : Value → Prop}

theorem step_run {s : Sem Next} {v : Value} (h : s.run P w = .ok (.value v) w') : (std P).step s w K = K v w' := by
  show StepX P s w K = _
  unfold StepX
  rw [h]
theorem step_skip {s : Sem Next} (h : s.run P w = .ok .skip w') : (std P).step s w K = K undef w' := by
  show StepX P s w K = _
  unfold StepX
  rw [h]
theorem stepS_run {s : Sem Next} {v : Value} (hne : ∃ w, S w) (h : ∀ w, S w → s.run P w = .ok (.value v) w) : (std P).stepS S s k = k v := by
  show StepS P S s k = _
  unfold StepS
  refine propext ⟨?_, fun hk => ⟨v, h, hk⟩⟩
  rintro ⟨u, hu, hk⟩
  obtain ⟨w, hw⟩ := hne
  have h1 := (hu w hw).symm.trans (h w hw)
  injection h1 with h1
  injection h1 with h1
  rw [← h1]; exact hk

theorem bool_dec (p : Prop) [Decidable p] (A B : Prop) : (std P).bool (.bool (decide p)) A B = ((p → A) ∧ (¬ p → B)) := by
  show BoolX _ _ _ = _
  unfold BoolX
  by_cases h : p <;> simp [h]
theorem bool_true (A B : Prop) : (std P).bool (.bool true) A B = A := by
  show BoolX _ _ _ = _
  simp [BoolX]
theorem bool_false (A B : Prop) : (std P).bool (.bool false) A B = B := by
  show BoolX _ _ _ = _
  simp [BoolX]
theorem bool_not (b : Bool) (A B : Prop) : (std P).bool (.bool (!b)) A B = (std P).bool (.bool b) B A := by
  show BoolX _ _ _ = BoolX _ _ _
  cases b <;> simp [BoolX]
theorem bool_var (b : Bool) (A B : Prop) : (std P).bool (.bool b) A B = ((b = true → A) ∧ (b = false → B)) := by
  show BoolX _ _ _ = _
  cases b <;> simp [BoolX]

/-! numbers -/

theorem run_sV (s : Sem Value) (w : World) : (sV s).run P w = (s.run P w).andThen fun v w' => .ok (.value v) w' := by
  unfold sV
  rw [Sem.run_bind]
  rfl

theorem r_add {t : TypeId} {x y : Operand} {q : IntKind} {a b : Int} : (sBin .add t x y (.int q a) (.int q b)).run P w = .ok (.value (.int q (q.wrap (a + b)))) w := by
  simp [sBin, run_sV, eqGuard, binOp, Op.intArith]
theorem r_sub {t : TypeId} {x y : Operand} {q : IntKind} {a b : Int} : (sBin .sub t x y (.int q a) (.int q b)).run P w = .ok (.value (.int q (q.wrap (a - b)))) w := by
  simp [sBin, run_sV, eqGuard, binOp, Op.intArith]
theorem r_mul {t : TypeId} {x y : Operand} {q : IntKind} {a b : Int} : (sBin .mul t x y (.int q a) (.int q b)).run P w = .ok (.value (.int q (q.wrap (a * b)))) w := by
  simp [sBin, run_sV, eqGuard, binOp, Op.intArith]
theorem r_quo {t : TypeId} {x y : Operand} {q : IntKind} {a b : Int} (h : b ≠ 0) : (sBin .quo t x y (.int q a) (.int q b)).run P w = .ok (.value (.int q (q.wrap (a.tdiv b)))) w := by
  simp [sBin, run_sV, eqGuard, binOp, Op.intDiv, h]
theorem r_rem {t : TypeId} {x y : Operand} {q : IntKind} {a b : Int} (h : b ≠ 0) : (sBin .rem t x y (.int q a) (.int q b)).run P w = .ok (.value (.int q (a.tmod b))) w := by
  simp [sBin, run_sV, eqGuard, binOp, Op.intDiv, h]
def bitOp (op : BinOp) (q : IntKind) (a b : Int) : Int :=
  let x := BitVec.ofInt q.bits a
  let y := BitVec.ofInt q.bits b
  q.wrap (match op with | .and => (x &&& y).toNat | .or => (x ||| y).toNat | .xor => (x ^^^ y).toNat | .andNot => (x &&& ~~~y).toNat | _ => 0)
theorem r_and {t : TypeId} {x y : Operand} {q : IntKind} {a b : Int} : (sBin .and t x y (.int q a) (.int q b)).run P w = .ok (.value (.int q (bitOp .and q a b))) w := by
  simp [sBin, run_sV, eqGuard, binOp, Op.intBits, bitOp]
theorem r_or {t : TypeId} {x y : Operand} {q : IntKind} {a b : Int} : (sBin .or t x y (.int q a) (.int q b)).run P w = .ok (.value (.int q (bitOp .or q a b))) w := by
  simp [sBin, run_sV, eqGuard, binOp, Op.intBits, bitOp]
theorem r_xor {t : TypeId} {x y : Operand} {q : IntKind} {a b : Int} : (sBin .xor t x y (.int q a) (.int q b)).run P w = .ok (.value (.int q (bitOp .xor q a b))) w := by
  simp [sBin, run_sV, eqGuard, binOp, Op.intBits, bitOp]
theorem r_shl {t : TypeId} {x y : Operand} {q q' : IntKind} {a b : Int} (h : ¬ b < 0) : (sBin .shl t x y (.int q a) (.int q' b)).run P w = .ok (.value (.int q (q.wrap (a * 2 ^ (min b.toNat q.bits))))) w := by
  simp [sBin, run_sV, eqGuard, binOp, Op.shift, h]
theorem r_shr {t : TypeId} {x y : Operand} {q q' : IntKind} {a b : Int} (h : ¬ b < 0) : (sBin .shr t x y (.int q a) (.int q' b)).run P w = .ok (.value (.int q (a.fdiv (2 ^ (min b.toNat q.bits))))) w := by
  simp [sBin, run_sV, eqGuard, binOp, Op.shift, h]
theorem r_lss {t : TypeId} {x y : Operand} {q : IntKind} {a b : Int} : (sBin .lss t x y (.int q a) (.int q b)).run P w = .ok (.value (.bool (decide (a < b)))) w := by
  simp [sBin, run_sV, eqGuard, binOp, Op.intCmp]
theorem r_leq {t : TypeId} {x y : Operand} {q : IntKind} {a b : Int} : (sBin .leq t x y (.int q a) (.int q b)).run P w = .ok (.value (.bool (decide (a ≤ b)))) w := by
  simp [sBin, run_sV, eqGuard, binOp, Op.intCmp]
theorem r_gtr {t : TypeId} {x y : Operand} {q : IntKind} {a b : Int} : (sBin .gtr t x y (.int q a) (.int q b)).run P w = .ok (.value (.bool (decide (b < a)))) w := by
  simp [sBin, run_sV, eqGuard, binOp, Op.intCmp]
theorem r_geq {t : TypeId} {x y : Operand} {q : IntKind} {a b : Int} : (sBin .geq t x y (.int q a) (.int q b)).run P w = .ok (.value (.bool (decide (b ≤ a)))) w := by
  simp [sBin, run_sV, eqGuard, binOp, Op.intCmp]
theorem r_eql {t : TypeId} {x y : Operand} {q : IntKind} {a b : Int} : (sBin .eql t x y (.int q a) (.int q b)).run P w = .ok (.value (.bool (decide (a = b)))) w := by
  simp [sBin, run_sV, eqGuard, binOp, Op.intCmp]
  rfl
theorem r_neq {t : TypeId} {x y : Operand} {q : IntKind} {a b : Int} : (sBin .neq t x y (.int q a) (.int q b)).run P w = .ok (.value (.bool (decide (a ≠ b)))) w := by
  simp [sBin, run_sV, eqGuard, binOp, Op.intCmp]
  rfl
theorem toList_inj (a b : ByteArray) : (a.toList == b.toList) = decide (a = b) := by
  by_cases h : a = b
  · subst h; simp
  · have : a.toList ≠ b.toList := fun e => h (by
      have h2 : a.data.toList = b.data.toList := by rw [← Go.ByteArray.toList_eq, ← Go.ByteArray.toList_eq, e]
      cases a; cases b; simp only at h2; congr 1; exact Array.toList_inj.1 h2)
    simp [h, this]
theorem r_seql {t : TypeId} {x y : Operand} {a b : ByteArray} : (sBin .eql t x y (.string a) (.string b)).run P w = .ok (.value (.bool (decide (a = b)))) w := by
  simp only [sBin, run_sV, eqGuard, binOp, Op.stringOp, toList_inj]
  rfl
theorem r_sneq {t : TypeId} {x y : Operand} {a b : ByteArray} : (sBin .neq t x y (.string a) (.string b)).run P w = .ok (.value (.bool (!decide (a = b)))) w := by
  simp only [sBin, run_sV, eqGuard, binOp, Op.stringOp, toList_inj]
  rfl
theorem r_sadd {t : TypeId} {x y : Operand} {a b : ByteArray} (h : a.size + b.size ≤ 9223372036854775807) : (sBin .add t x y (.string a) (.string b)).run P w = .ok (.value (.string (a ++ b))) w := by
  have h2 : ¬ ((a.size + b.size : Nat) : Int) > IntKind.i64.max := by
    simp [IntKind.max, IntKind.bits, IntKind.signed]; omega
  simp only [sBin, run_sV, eqGuard, binOp, Op.stringOp]
  rw [if_neg h2]
  rfl
theorem r_not {b : Bool} : (sUn .not (.bool b)).run P w = .ok (.value (.bool (!b))) w := by
  simp [sUn, run_sV, Op.unary]
theorem r_neg {q : IntKind} {a : Int} : (sUn .neg (.int q a)).run P w = .ok (.value (.int q (q.wrap (0 - a)))) w := by
  simp [sUn, run_sV, Op.unary, Op.intArith]
theorem r_inv {q : IntKind} {a : Int} : (sUn .xor (.int q a)).run P w = .ok (.value (.int q (bitOp .xor q (if q.signed then -1 else q.max) a))) w := by
  simp [sUn, run_sV, Op.unary, Op.intBits, bitOp]
theorem r_nil {a : Addr} : (sNil (.pointer (some a))).run P w = .ok (.value (.pointer (some a))) w := rfl
theorem r_ext20 {a b : Value} : (sExtract (.tuple #[a, b]) 0).run P w = .ok (.value a) w := rfl
theorem r_ext21 {a b : Value} : (sExtract (.tuple #[a, b]) 1).run P w = .ok (.value b) w := rfl
theorem r_ext30 {a b c : Value} : (sExtract (.tuple #[a, b, c]) 0).run P w = .ok (.value a) w := rfl
theorem r_ext31 {a b c : Value} : (sExtract (.tuple #[a, b, c]) 1).run P w = .ok (.value b) w := rfl
theorem r_ext32 {a b c : Value} : (sExtract (.tuple #[a, b, c]) 2).run P w = .ok (.value c) w := rfl
theorem r_min {ats : Array TypeId} {ty : TypeId} {c : List Bool} {q : IntKind} {a b : Int} : (sBuiltin .min ats ty c [.int q a, .int q b]).run P w = .ok (.value (.int q (if b < a then b else a))) w := by
  simp [sBuiltin, builtin, Builtin.min_, Builtin.min2]
theorem r_max {ats : Array TypeId} {ty : TypeId} {c : List Bool} {q : IntKind} {a b : Int} : (sBuiltin .max ats ty c [.int q a, .int q b]).run P w = .ok (.value (.int q (if a < b then b else a))) w := by
  simp [sBuiltin, builtin, Builtin.max_, Builtin.max2]
/-! with types -/

theorem run_equal_bool {t : TypeId} {a b : Bool} (h : P.underlying t = some .bool) : (Op.equal t (.bool a) (.bool b)).run P w = .ok (a == b) w := by
  show (Op.equalIn (9999 + 1) t (.bool a) (.bool b)).run P w = _
  unfold Op.equalIn
  simp [underlying, program, Sem.run, h]
theorem r_beql {t : TypeId} {x y : Operand} {a b : Bool} (h : P.underlying t = some .bool) : (sBin .eql t x y (.bool a) (.bool b)).run P w = .ok (.value (.bool (a == b))) w := by
  have h1 : sBin .eql t x y (.bool a) (.bool b) = sV (do eqGuard .eql t x y (.bool a) (.bool b); pure (.bool (← Op.equal t (.bool a) (.bool b)))) := rfl
  rw [h1, run_sV, Sem.run_bind]
  simp [eqGuard, run_equal_bool h]
theorem r_bneq {t : TypeId} {x y : Operand} {a b : Bool} (h : P.underlying t = some .bool) : (sBin .neq t x y (.bool a) (.bool b)).run P w = .ok (.value (.bool (!(a == b)))) w := by
  have h1 : sBin .neq t x y (.bool a) (.bool b) = sV (do eqGuard .neq t x y (.bool a) (.bool b); pure (.bool (!(← Op.equal t (.bool a) (.bool b))))) := rfl
  rw [h1, run_sV, Sem.run_bind]
  simp [eqGuard, run_equal_bool h]
theorem r_conv {s d : TypeId} {u : TypeDesc} {q q' : IntKind} {n : Int} (hs : P.underlying s = some u) (hd : P.underlying d = some (.int q')) : (sConv s d (.int q n)).run P w = .ok (.value (.int q' (q'.wrap n))) w := by
  simp only [sConv, run_sV, convert, underlying, program, Sem.run_bind, Sem.run, hs, hd, Result.andThen_ok, Conv.intToInt]
  simp [hs, hd]
theorem r_lens {t ty e : TypeId} {c : List Bool} {A : Option Addr} {n m : Nat} (h : P.underlying t = some (.slice e)) : (sBuiltin .len #[t] ty c [.slice A n m]).run P w = .ok (.value (.int .i64 n)) w := by
  simp [sBuiltin, builtin, Builtin.len_, underlying, program, Sem.run, h, goInt]
theorem r_lenstr {t ty : TypeId} {c : List Bool} {s : ByteArray} (h : P.underlying t = some .string) : (sBuiltin .len #[t] ty c [.string s]).run P w = .ok (.value (.int .i64 s.size)) w := by
  simp [sBuiltin, builtin, Builtin.len_, underlying, program, Sem.run, h, goInt]
theorem r_lenarr {t ty e : TypeId} {c : List Bool} {v : Value} {n : Nat} (h : P.underlying t = some (.array n e)) : (sBuiltin .len #[t] ty c [v]).run P w = .ok (.value (.int .i64 n)) w := by
  simp [sBuiltin, builtin, Builtin.len_, underlying, program, Sem.run, h, goInt]

end
end Go.Proofs.Ytplpjikcgheiiaa

/-! ### memory -/

namespace Go.Proofs.Ytplpjikcgheiiaa
open Go Xf Go.RowKit
set_option linter.unusedVariables false
set_option linter.unusedSimpArgs false

/-- w' is w with new blocks, and with writes to blocks of ks alone. -/
structure Upd (w w' : World) (ks : List Nat) : Prop where
  os : w'.os = w.os
  tape : w'.tape = w.tape
  output : w'.output = w.output
  size : w.heap.size ≤ w'.heap.size
  keep : ∀ b, b < w.heap.size → b ∉ ks → w'.heap[b]? = w.heap[b]?

theorem Upd.refl (w : World) (ks : List Nat) : Upd w w ks := ⟨rfl, rfl, rfl, Nat.le_refl _, fun _ _ _ => rfl⟩
theorem Upd.trans {a b c : World} {ks : List Nat} (h : Upd a b ks) (k : Upd b c ks) : Upd a c ks :=
  ⟨k.os.trans h.os, k.tape.trans h.tape, k.output.trans h.output, Nat.le_trans h.size k.size, fun i hi hn => (k.keep i (Nat.lt_of_lt_of_le hi h.size) hn).trans (h.keep i hi hn)⟩
theorem Upd.mono {a b : World} {ks ls : List Nat} (h : Upd a b ks) (hs : ∀ x ∈ ks, x ∈ ls) : Upd a b ls :=
  ⟨h.os, h.tape, h.output, h.size, fun i hi hn => h.keep i hi fun hm => hn (hs i hm)⟩
theorem Upd.nil {a b : World} (h : Upd a b []) (ks : List Nat) : Upd a b ks := h.mono fun _ hx => by cases hx
/-- a step that writes blocks of the later world's own alone -/
theorem Upd.then_ {a b c : World} {ks ls : List Nat} (h : Upd a b ks) (k : Upd b c ls) (hl : ∀ x ∈ ls, x ∈ ks ∨ a.heap.size ≤ x) : Upd a c ks :=
  ⟨k.os.trans h.os, k.tape.trans h.tape, k.output.trans h.output, Nat.le_trans h.size k.size, fun i hi hn =>
    (k.keep i (Nat.lt_of_lt_of_le hi h.size) fun hm => (hl i hm).elim hn fun hge => absurd hi (Nat.not_lt.2 hge)).trans (h.keep i hi hn)⟩
theorem Upd.drew (w : World) (ks : List Nat) : Upd w w.drew ks := ⟨rfl, rfl, rfl, Nat.le_refl _, fun _ _ _ => rfl⟩
theorem Upd.alloc (w : World) (o : Obj) (ks : List Nat) : Upd w (w.alloc o) ks := ⟨rfl, rfl, rfl, by simp, fun k hk _ => Below.heap_alloc _ _ _ hk⟩
theorem Upd.setCell (w : World) (p : Addr) (v : Value) : Upd w (w.setCell p v) [p.block] := ⟨rfl, rfl, rfl, by simp [World.setCell], fun k hk hn => Below.heap_setCell _ _ _ _ (by simpa using hn)⟩
theorem Upd.below {a b : World} (h : Upd a b []) : Below a.heap.size a b := ⟨h.os, h.tape, h.output, h.size, fun k hk => h.keep k hk (by simp)⟩
theorem Upd.cell {a b : World} {ks : List Nat} (h : Upd a b ks) {p : Addr} (hp : p.block < a.heap.size) (hn : p.block ∉ ks) : b.cell? p = a.cell? p := World.cell?_of_block (h.keep p.block hp hn)

/-- The blocks of h stand in w, each once. -/
def Owns (w : World) (h : List (Nat × Obj)) : Prop := (h.map (·.1)).Nodup ∧ ∀ p ∈ h, w.heap[p.1]? = some p.2

theorem lt_of_some {w : World} {g : Nat} {o : Obj} (h : w.heap[g]? = some o) : g < w.heap.size := by
  rcases Nat.lt_or_ge g w.heap.size with hlt | hge
  · exact hlt
  · rw [Array.getElem?_eq_none hge] at h; cases h

theorem Owns.nil (w : World) : Owns w [] := ⟨List.nodup_nil, fun p hp => by cases hp⟩
theorem Owns.lt {w : World} {h : List (Nat × Obj)} (hO : Owns w h) {p : Nat × Obj} (hp : p ∈ h) : p.1 < w.heap.size := lt_of_some (hO.2 p hp)
theorem Owns.at_ {w : World} {h : List (Nat × Obj)} (hO : Owns w h) (i : Nat) {g : Nat} {o : Obj} (hi : h[i]? = some (g, o)) : w.heap[g]? = some o := hO.2 (g, o) (List.mem_of_getElem? hi)
theorem Owns.upd {w w' : World} {h : List (Nat × Obj)} {ks : List Nat} (hO : Owns w h) (hU : Upd w w' ks) (hd : ∀ p ∈ h, p.1 ∉ ks) : Owns w' h :=
  ⟨hO.1, fun p hp => (hU.keep p.1 (hO.lt hp) (hd p hp)).trans (hO.2 p hp)⟩
theorem Owns.ext {w w' : World} {h : List (Nat × Obj)} (hO : Owns w h) (hU : Upd w w' []) : Owns w' h := hO.upd hU fun _ _ => by simp
theorem Owns.alloc {w : World} {h : List (Nat × Obj)} (hO : Owns w h) (o : Obj) : Owns (w.alloc o) ((w.heap.size, o) :: h) := by
  refine ⟨?_, fun p hp => ?_⟩
  · simp only [List.map_cons]
    refine List.nodup_cons.2 ⟨fun hm => ?_, hO.1⟩
    obtain ⟨p, hp, he⟩ := List.mem_map.1 hm
    have := hO.lt hp
    omega
  · rcases List.mem_cons.1 hp with rfl | hp
    · exact heap_alloc_new w o
    · rw [Below.heap_alloc w o _ (hO.lt hp)]; exact hO.2 p hp
theorem Owns.perm {w : World} {h h' : List (Nat × Obj)} (hO : Owns w h) (hp : h.Perm h') : Owns w h' :=
  ⟨(hp.map _).nodup_iff.1 hO.1, fun p hm => hO.2 p (hp.mem_iff.2 hm)⟩
theorem Owns.sub {w : World} {h h' : List (Nat × Obj)} (hO : Owns w h) (hs : h'.Sublist h) : Owns w h' :=
  ⟨hO.1.sublist (hs.map _), fun p hm => hO.2 p (hs.mem hm)⟩
theorem heap_setCell_at {w : World} {g off : Nat} {cs : Array Value} {t : TypeId} {fr : Nat × Nat} (h : w.heap[g]? = some (.cells cs t fr)) (v : Value) :
    (w.setCell ⟨g, off, none⟩ v).heap[g]? = some (.cells (cs.setIfInBounds off v) t fr) := by
  simp [World.setCell, Array.getElem?_modify, h]
theorem Owns.put {w w' : World} {h : List (Nat × Obj)} (hO : Owns w h) (i : Nat) {g : Nat} {o o' : Obj} (hi : h[i]? = some (g, o)) (hg : w'.heap[g]? = some o') (hother : ∀ k, k ≠ g → w'.heap[k]? = w.heap[k]?) :
    Owns w' (h.set i (g, o')) := by
  have hmap : (h.set i (g, o')).map (·.1) = h.map (·.1) := by
    rw [List.map_set]
    apply List.ext_getElem?
    intro j
    by_cases hj : i = j
    · subst hj
      obtain ⟨hlt, he⟩ := List.getElem?_eq_some_iff.1 hi
      simp [List.getElem?_set, hlt, he]
    · simp [List.getElem?_set, hj]
  refine ⟨by rw [hmap]; exact hO.1, fun p hp => ?_⟩
  obtain ⟨j, hj⟩ := List.getElem?_of_mem hp
  by_cases hij : i = j
  · subst hij
    have hlt := (List.getElem?_eq_some_iff.1 hi).1
    rw [List.getElem?_set_self (by omega)] at hj
    injection hj with hj
    subst hj
    exact hg
  · rw [List.getElem?_set_ne hij] at hj
    have hne : p.1 ≠ g := by
      intro he
      have h1 : (h.map (·.1))[i]? = some g := by simp [hi]
      have h2 : (h.map (·.1))[j]? = some g := by simp [hj, he]
      have hlt : i < (h.map (·.1)).length := (List.getElem?_eq_some_iff.1 h1).1
      exact hij ((List.getElem?_inj hlt hO.1).1 (h1.trans h2.symm))
    rw [hother _ hne]
    exact hO.2 p (List.mem_of_getElem? hj)
theorem Owns.setCell {w : World} {h : List (Nat × Obj)} (hO : Owns w h) (i : Nat) {g off : Nat} {cs : Array Value} {t : TypeId} {fr : Nat × Nat} (hi : h[i]? = some (g, .cells cs t fr)) (v : Value) :
    Owns (w.setCell ⟨g, off, none⟩ v) (h.set i (g, .cells (cs.setIfInBounds off v) t fr)) :=
  hO.put i hi (heap_setCell_at (hO.at_ i hi) v) fun k hk => Below.heap_setCell _ _ _ _ hk
theorem Owns.setRow {w : World} {h : List (Nat × Obj)} (hO : Owns w h) (i : Nat) {g : Nat} {cs : Array Value} {t : TypeId} {fr : Nat × Nat} (hi : h[i]? = some (g, .cells cs t fr)) (vs : Array Value) :
    Owns (w.setRow g vs) (h.set i (g, .cells vs t fr)) :=
  hO.put i hi (setRow_heap w g cs vs t fr (hO.at_ i hi)) fun k hk => setRow_other w g k vs hk
theorem Upd.setRow (w : World) (g : Nat) (vs : Array Value) : Upd w (w.setRow g vs) [g] := ⟨rfl, rfl, rfl, by simp [World.setRow], fun k hk hn => setRow_other w g k vs (by simpa using hn)⟩

theorem cell_at {w : World} {g off : Nat} {cs : Array Value} {t : TypeId} {fr : Nat × Nat} (h : w.heap[g]? = some (.cells cs t fr)) : w.cell? ⟨g, off, none⟩ = cs[off]? := by
  simp [World.cell?, h]

def isAggD : TypeDesc → Bool
  | .struct _ => true
  | .array _ _ => true
  | _ => false

def oneB : Value → Bool
  | .agg _ => false
  | .tuple _ => false
  | _ => true

theorem cells_one {v : Value} (h : oneB v = true) : v.cells = #[v] := by cases v <;> first | rfl | cases h

section
variable {P : Program} {w w' W : World} {K : Value → World → Prop}

theorem run_underlying' {t : TypeId} {u : TypeDesc} (h : P.underlying t = some u) : (underlying t).run P w = .ok u w := by
  simp [underlying, program, Sem.run, h]
theorem run_isAgg {t : TypeId} {b : Bool} (h : (P.underlying t).map isAggD = some b) : (isAgg t).run P w = .ok b w := by
  cases hu : P.underlying t with
  | none => rw [hu] at h; cases h
  | some u =>
    rw [hu] at h
    simp only [Option.map_some, Option.some.injEq] at h
    subst h
    unfold isAgg
    rw [Sem.run_bind, run_underlying' hu]
    cases u <;> rfl
theorem run_sizeOf {t : TypeId} {n : Nat} (h : (P.info? t).map (·.size) = some n) : (sizeOf t).run P w = .ok n w := by
  cases hu : P.info? t with
  | none => rw [hu] at h; cases h
  | some i =>
    rw [hu] at h
    simp only [Option.map_some, Option.some.injEq] at h
    simp [sizeOf, typeInfo, program, Sem.run, hu, h]
theorem run_load1 {a : Addr} {v : Value} (h : w.cell? a = some v) : (load a).run P w = .ok v w := by
  simp [load, Sem.run, h]
theorem run_loadVar1 {t : TypeId} {a : Addr} {v : Value} (ht : (P.underlying t).map isAggD = some false) (h : w.cell? a = some v) : (loadVar t a).run P w = .ok v w := by
  unfold loadVar
  rw [Sem.run_bind, run_isAgg ht]
  simp only [Result.andThen_ok, Bool.false_eq_true, if_false]
  exact run_load1 h
theorem run_loadCells {a : Addr} : ∀ (n i : Nat) (cs : List Value) (acc : Array Value), cs.length = n → (∀ j v, cs[j]? = some v → w.cell? (a.add (i + j)) = some v) → (loadCellsFrom a i n acc).run P w = .ok (acc ++ cs.toArray) w
  | 0, i, cs, acc, hl, h => by
    have : cs = [] := List.eq_nil_of_length_eq_zero hl
    subst this
    simp [loadCellsFrom]
  | n + 1, i, c :: cs, acc, hl, h => by
    unfold loadCellsFrom
    have h0 := h 0 c rfl
    rw [Nat.add_zero] at h0
    rw [Sem.run_bind, run_load1 h0]
    simp only [Result.andThen_ok]
    rw [run_loadCells n (i + 1) cs (acc.push c) (by simpa using hl) (fun j v hj => by rw [Nat.add_assoc, Nat.add_comm 1 j]; exact h (j + 1) v (by simpa using hj))]
    simp
  | n + 1, i, [], acc, hl, h => by simp at hl
theorem run_loadVarN {t : TypeId} {a : Addr} {cs : List Value} (ht : (P.underlying t).map isAggD = some true) (hn : (P.info? t).map (·.size) = some cs.length) (h : ∀ j v, cs[j]? = some v → w.cell? (a.add j) = some v) :
    (loadVar t a).run P w = .ok (.agg cs.toArray) w := by
  unfold loadVar
  rw [Sem.run_bind, run_isAgg ht]
  simp only [Result.andThen_ok, if_true]
  rw [Sem.run_bind, run_sizeOf hn]
  simp only [Result.andThen_ok]
  rw [Sem.run_bind, show loadCells a cs.length = loadCellsFrom a 0 cs.length #[] from rfl, run_loadCells cs.length 0 cs #[] rfl (fun j v hj => by rw [Nat.zero_add]; exact h j v hj)]
  simp

theorem run_sLoad {t : TypeId} {a : Addr} {v : Value} (h : (loadVar t a).run P w = .ok v w) : (sLoad t (.pointer (some a))).run P w = .ok (.value v) w := by
  unfold sLoad Instr.loadAt
  rw [run_sV, Sem.run_bind]
  simp only [Instr.sureAddr, Sem.run_pure, Result.andThen_ok, h]

theorem st_load {t : TypeId} {a : Addr} {v : Value} (ht : (P.underlying t).map isAggD = some false) (h : w.cell? a = some v) (hk : K v w) : (std P).step (sLoad t (.pointer (some a))) w K := by
  rw [step_run (run_sLoad (run_loadVar1 ht h))]; exact hk
theorem st_loadN {t : TypeId} {a : Addr} {cs : List Value} (ht : (P.underlying t).map isAggD = some true) (hn : (P.info? t).map (·.size) = some cs.length) (h : ∀ j v, cs[j]? = some v → w.cell? (a.add j) = some v) (hk : K (.agg cs.toArray) w) :
    (std P).step (sLoad t (.pointer (some a))) w K := by
  rw [step_run (run_sLoad (run_loadVarN ht hn h))]; exact hk
theorem add_zero (a : Addr) : a.add 0 = a := rfl
theorem add_mk (g off n : Nat) : (⟨g, off, none⟩ : Addr).add n = ⟨g, off + n, none⟩ := by
  unfold Addr.add
  by_cases h : n = 0
  · subst h; rfl
  · rw [if_neg h]

/-- a load out of a block that is known -/
theorem st_loadB {t e : TypeId} {h : List (Nat × Obj)} {g off : Nat} {cs : Array Value} {fr : Nat × Nat} {v : Value} (ht : (P.underlying t).map isAggD = some false) (hO : Owns w h) (i : Nat) (hi : h[i]? = some (g, .cells cs e fr)) (hv : cs[off]? = some v) (hk : K v w) :
    (std P).step (sLoad t (.pointer (some ⟨g, off, none⟩))) w K := st_load ht ((cell_at (hO.at_ i hi)).trans hv) hk

theorem run_store1 {a : Addr} {v u : Value} (hv : oneB v = true) (hc : w.cell? a = some u) (hf : w.frozen? a = false) : (store a v).run P w = .ok () (w.setCell a v) := by
  rw [run_store P w a v .plain (by cases v <;> first | rfl | cases hv)]
  simp [stored, hc, hf]
theorem frozen_at {g off : Nat} {cs : Array Value} {t : TypeId} {lo hi : Nat} (h : w.heap[g]? = some (.cells cs t (lo, hi))) (hf : off < lo ∨ hi ≤ off) : w.frozen? ⟨g, off, none⟩ = false := by
  simp only [World.frozen?, h]
  rcases hf with hf | hf
  · simp; omega
  · simp; omega
theorem run_sStore1 {t : TypeId} {a : Addr} {v u : Value} (hn : (P.info? t).map (·.size) = some 1) (hv : oneB v = true) (hc : w.cell? a = some u) (hf : w.frozen? a = false) : (sStore t (.pointer (some a)) v).run P w = .ok .skip (w.setCell a v) := by
  unfold sStore sU Instr.storeAt
  rw [Sem.run_bind, Sem.run_bind]
  simp only [Instr.sureAddr, Sem.run_pure, Result.andThen_ok]
  unfold storeVar
  rw [Sem.run_bind, run_sizeOf hn]
  simp only [Result.andThen_ok, cells_one hv]
  simp only [List.size_toArray, List.length_cons, List.length_nil, Nat.zero_add, ne_eq, not_true, if_false]
  simp only [storeCells, Sem.run_bind, add_zero, run_store1 (P := P) hv hc hf, Result.andThen_ok, Sem.run_pure]

/-- a store into a block that is known -/
theorem st_storeB {t e : TypeId} {h : List (Nat × Obj)} {g off : Nat} {cs : Array Value} {lo hi : Nat} {v : Value} {ks : List Nat} (hn : (P.info? t).map (·.size) = some 1) (hv : oneB v = true) (hU : Upd W w ks) (hO : Owns w h) (i : Nat)
    (hi' : h[i]? = some (g, .cells cs e (lo, hi))) (hoff : off < cs.size) (hf : off < lo ∨ hi ≤ off) (hg : g ∈ ks ∨ W.heap.size ≤ g)
    (hk : ∀ w', Upd W w' ks → Owns w' (h.set i (g, .cells (cs.setIfInBounds off v) e (lo, hi))) → K undef w') : (std P).step (sStore t (.pointer (some ⟨g, off, none⟩)) v) w K := by
  have hb := hO.at_ i hi'
  rw [step_skip (run_sStore1 hn hv ((cell_at hb).trans (Array.getElem?_eq_getElem hoff)) (frozen_at hb hf))]
  exact hk _ (hU.then_ (Upd.setCell _ _ _) fun x hx => by simp at hx; subst hx; exact hg) (hO.setCell i hi' v)

theorem run_newVar {t : TypeId} {v : Value} : (newVar t v).run P w = .ok ⟨w.heap.size, 0, none⟩ (w.alloc (.cells v.cells t)) := by
  unfold newVar newRow newObj
  rw [Sem.run_bind]
  rfl
theorem run_sAlloc {t : TypeId} {z : Value} (hz : (P.info? t).bind (·.zero) = some z) : (sAlloc t).run P w = .ok (.value (.pointer (some ⟨w.heap.size, 0, none⟩))) (w.alloc (.cells z.cells t)) := by
  cases hi : P.info? t with
  | none => rw [hi] at hz; cases hz
  | some i =>
    rw [hi] at hz
    have hz' : i.zero = some z := hz
    have h0 : (zeroValue t).run P w = .ok z w := by simp [zeroValue, typeInfo, program, Sem.run, hi, hz']
    unfold sAlloc Instr.alloc
    rw [run_sV, Sem.run_bind, h0]
    simp only [Result.andThen_ok, Sem.run_bind, run_newVar, Sem.run_pure]
/-- a new variable -/
theorem st_alloc {t : TypeId} {z : Value} {h : List (Nat × Obj)} {ks : List Nat} (hz : (P.info? t).bind (·.zero) = some z) (hU : Upd W w ks) (hO : Owns w h)
    (hk : ∀ g w', Upd W w' ks → Owns w' ((g, .cells z.cells t) :: h) → W.heap.size ≤ g → K (.pointer (some ⟨g, 0, none⟩)) w') : (std P).step (sAlloc t) w K := by
  rw [step_run (run_sAlloc hz)]
  exact hk _ _ (hU.then_ (Upd.alloc _ _ []) fun x hx => by cases hx) (hO.alloc _) hU.size
theorem run_sBox {t : TypeId} {v : Value} : (sBox t v).run P w = .ok (.value (.pointer (some ⟨w.heap.size, 0, none⟩))) (w.alloc (.cells v.cells t)) := by
  unfold sBox Instr.box
  rw [run_sV, Sem.run_bind, run_newVar]
  simp only [Result.andThen_ok, Sem.run_pure]
theorem st_box {t : TypeId} {v : Value} {h : List (Nat × Obj)} {ks : List Nat} (hU : Upd W w ks) (hO : Owns w h)
    (hk : ∀ g w', Upd W w' ks → Owns w' ((g, .cells v.cells t) :: h) → W.heap.size ≤ g → K (.pointer (some ⟨g, 0, none⟩)) w') : (std P).step (sBox t v) w K := by
  rw [step_run run_sBox]
  exact hk _ _ (hU.then_ (Upd.alloc _ _ []) fun x hx => by cases hx) (hO.alloc _) hU.size

end
end Go.Proofs.Ytplpjikcgheiiaa

/-! ### slices -/

namespace Go.Proofs.Ytplpjikcgheiiaa
open Go Xf Go.RowKit
set_option linter.unusedVariables false
set_option linter.unusedSimpArgs false

/-- The slice value v, of n elements of sz cells each, has the cells xs, in the block of h. -/
def RowH (e : TypeId) (sz : Nat) (v : Value) (n : Nat) (xs : List Value) (h : List (Nat × Obj)) : Prop :=
  xs.length = n * sz ∧ ((v = .slice none 0 0 ∧ n = 0 ∧ h = []) ∨
    ∃ g cap cs, v = .slice (some ⟨g, 0, none⟩) n cap ∧ h = [(g, .cells cs e (0, 0))] ∧ n ≤ cap ∧ cap ≤ maxLen ∧ cs.size = cap * sz ∧ cs.toList.take (n * sz) = xs)

/-- The slice value v reads xs in w (sz cells an element). -/
def Rd (w : World) (sz : Nat) (v : Value) (n : Nat) (xs : List Value) : Prop :=
  ∃ A c, v = .slice A n c ∧ n ≤ c ∧ xs.length = n * sz ∧ ∀ j u, xs[j]? = some u → ∃ a, A = some a ∧ w.cell? (a.add j) = some u

theorem Rd.nil_ (w : World) (sz : Nat) : Rd w sz (.slice none 0 0) 0 [] := ⟨none, 0, rfl, Nat.le_refl _, by simp, fun j u h => by simp at h⟩

/-- the same memory read in a later world -/
theorem Rd.mono {w w' : World} {sz : Nat} {v : Value} {n : Nat} {xs : List Value} (h : Rd w sz v n xs) (hU : Upd w w' []) : Rd w' sz v n xs := by
  obtain ⟨A, c, h1, h2, h3, h4⟩ := h
  refine ⟨A, c, h1, h2, h3, fun j u hu => ?_⟩
  obtain ⟨a, ha, hc⟩ := h4 j u hu
  exact ⟨a, ha, by rw [hU.cell (p := a.add j) (World.block_lt_of_cell? w _ hc) (by simp)]; exact hc⟩

/-- the same where blocks from B on are written -/
def RdB (w : World) (B : Nat) (sz : Nat) (v : Value) (n : Nat) (xs : List Value) : Prop :=
  ∃ A c, v = .slice A n c ∧ n ≤ c ∧ xs.length = n * sz ∧ ∀ j u, xs[j]? = some u → ∃ a, A = some a ∧ a.block < B ∧ w.cell? (a.add j) = some u

theorem block_add (a : Addr) (n : Nat) : (a.add n).block = a.block := by unfold Addr.add; split <;> rfl
theorem add_add' (a : Addr) (i j : Nat) : (a.add i).add j = a.add (i + j) := by
  unfold Addr.add
  by_cases hi : i = 0 <;> by_cases hj : j = 0 <;> simp [hi, hj, Nat.add_assoc]

section
variable {P : Program} {w w' W : World} {K : Value → World → Prop} {S : World → Prop} {k : Value → Prop}

theorem RowH.owns {e : TypeId} {sz : Nat} {v : Value} {n : Nat} {xs : List Value} {h F : List (Nat × Obj)} (hr : RowH e sz v n xs h) (hO : Owns w (h ++ F)) : w.ownsRow 0 e sz v n xs := by
  refine ⟨hr.1, ?_⟩
  rcases hr.2 with ⟨h1, h2, _⟩ | ⟨g, cap, cs, h1, rfl, h3, h4, h5, h6⟩
  · exact .inl ⟨h1, h2⟩
  · exact .inr ⟨g, cap, cs, h1, Nat.zero_le _, hO.at_ 0 rfl, h3, h4, h5, h6⟩

theorem RowH.rd {e : TypeId} {sz : Nat} {v : Value} {n : Nat} {xs : List Value} {h F : List (Nat × Obj)} (hr : RowH e sz v n xs h) (hO : Owns w (h ++ F)) : Rd w sz v n xs := by
  rcases hr.2 with ⟨h1, h2, _⟩ | ⟨g, cap, cs, h1, rfl, h3, h4, h5, h6⟩
  · subst h2
    have : xs = [] := List.eq_nil_of_length_eq_zero (by simpa using hr.1)
    subst this
    rw [h1]
    exact Rd.nil_ _ _
  · refine ⟨some ⟨g, 0, none⟩, cap, h1, h3, hr.1, fun j u hu => ⟨_, rfl, ?_⟩⟩
    rw [add_mk, Nat.zero_add, cell_at (hO.at_ 0 rfl)]
    rw [← h6, List.getElem?_take] at hu
    split at hu
    · simpa using hu
    · cases hu

theorem RowH.nil_ (e : TypeId) (sz : Nat) : RowH e sz (.slice none 0 0) 0 [] [] := ⟨by simp, .inl ⟨rfl, rfl, rfl⟩⟩

/-- append onto a row that is known, of what can be read -/
theorem st_append {t e ty : TypeId} {c : List Bool} {i : TypeInfo} {z : Value} {sz bytes : Nat} (ht : P.underlying t = some (.slice e)) (hi : P.info? e = some i) (hz : i.zero = some z) (hs : i.size = sz) (hb : i.bytes = bytes) (hzs : z.cells.size = sz) (hsz : 0 < sz)
    {v u : Value} {n m : Nat} {xs ys : List Value} {h F : List (Nat × Obj)} {ks : List Nat} (hr : RowH e sz v n xs h) (hO : Owns w (h ++ F)) (hU : Upd W w ks) (hh : ∀ p ∈ h, p.1 ∈ ks ∨ W.heap.size ≤ p.1)
    (hrd : Rd w sz u m ys) (h1 : ∀ y ∈ ys, y.oneCell' = true) (h63 : n + m ≤ maxLen) (hby : (n + m) * bytes ≤ 140737488355328)
    (hk : ∀ v' w' h', RowH e sz v' (n + m) (xs ++ ys) h' → Owns w' (h' ++ F) → Upd W w' ks → (∀ p ∈ h', p.1 ∈ ks ∨ W.heap.size ≤ p.1) → K v' w') : (std P).step (sBuiltin .append #[t, t] ty c [v, u]) w K := by
  obtain ⟨A, cc, rfl, hc, hl, hrd⟩ := hrd
  have hown := hr.owns hO
  have key : ∃ v' w', (Builtin.append_ #[t, t] ty #[v, .slice A m cc]).run P w = .ok v' w' ∧ w'.ownsRow 0 e sz v' (n + m) (xs ++ ys) ∧ w.grownBy w' v.ownBlock ∧ (v'.ownBlock = v.ownBlock ∨ v'.ownBlock = some w.heap.size) := by
    cases A with
    | none =>
      have hy : ys = [] := by
        cases ys with
        | nil => rfl
        | cons y ys => obtain ⟨a, ha, _⟩ := hrd 0 y rfl; cases ha
      subst hy
      have hm : m = 0 := by
        rcases Nat.eq_zero_or_pos m with h0 | h0
        · exact h0
        · have := Nat.mul_pos h0 hsz; simp at hl; omega
      subst hm
      refine ⟨v, w, ?_, by simpa using hown, World.grownBy.refl w _, .inl rfl⟩
      rcases hown.2 with ⟨rfl, rfl⟩ | ⟨g, cap, cur, rfl, _, _, hnc, _⟩
      · simp [Builtin.append_, run_underlying ht, sizeOf, typeInfo, hi, Builtin.lenOf, Builtin.firstCells]
      · simp [Builtin.append_, run_underlying ht, sizeOf, typeInfo, hi, Builtin.lenOf, Builtin.firstCells, hnc, storeCells]
    | some a =>
      obtain ⟨v', w', hrun, h2, h3, _, h5⟩ := run_append_own_at (P := P) w 0 t ty e i z sz bytes ht hi hz hs hb hzs hsz v n xs hown a m cc ys hl (fun j u hu => by obtain ⟨a', ha, hcell⟩ := hrd j u hu; cases ha; exact hcell) h1 h63 hby (Nat.zero_le _)
      exact ⟨v', w', hrun, h2, h3, h5⟩
  obtain ⟨v', w', hrun, h2, h3, h5⟩ := key
  have hstep : (sBuiltin .append #[t, t] ty c [v, .slice A m cc]).run P w = .ok (.value v') w' := by
    show (do pure (.value (← Builtin.append_ #[t, t] ty #[v, .slice A m cc])) : Sem Next).run P w = _
    rw [Sem.run_bind, hrun]
    rfl
  rw [step_run hstep]
  -- the block of the row
  have hvb : ∀ b, v.ownBlock = some b → ∃ cs, h = [(b, .cells cs e (0, 0))] := fun b hb => by
    rcases hr.2 with ⟨rfl, _⟩ | ⟨g, cap, cs, rfl, rfl, _⟩
    · cases hb
    · cases hb; exact ⟨cs, rfl⟩
  have hupd : Upd w w' (h.map (·.1)) := ⟨h3.os, h3.tape, h3.output, h3.size, fun b hb hn => h3.block b hb fun he => by
    obtain ⟨cs, rfl⟩ := hvb b he.symm
    exact hn (by simp)⟩
  have hU' : Upd W w' ks := hU.then_ hupd fun x hx => by
    obtain ⟨p, hp, rfl⟩ := List.mem_map.1 hx
    exact hh p hp
  have hOF : Owns w' F := by
    have hF : Owns w F := hO.sub (List.sublist_append_right h F)
    refine hF.upd hupd fun p hp hm => ?_
    have hnd := hO.1
    rw [List.map_append] at hnd
    exact (List.nodup_append.1 hnd).2.2 _ hm _ (List.mem_map_of_mem hp) rfl
  rcases h2.2 with ⟨rfl, hnm⟩ | ⟨g, cap, cur, rfl, _, hg, hn, hcm, hcs, htake⟩
  · exact hk _ _ [] ⟨h2.1, .inl ⟨rfl, hnm, rfl⟩⟩ hOF hU' (fun p hp => by cases hp)
  · refine hk _ _ [(g, .cells cur e (0, 0))] ⟨h2.1, .inr ⟨g, cap, cur, rfl, rfl, hn, hcm, hcs, htake⟩⟩ ⟨?_, ?_⟩ hU' ?_
    · simp only [List.singleton_append, List.map_cons]
      refine List.nodup_cons.2 ⟨fun hm => ?_, hOF.1⟩
      rcases h5 with h5 | h5
      · obtain ⟨cs, rfl⟩ := hvb g h5.symm
        have hnd := hO.1
        simp only [List.singleton_append, List.map_cons] at hnd
        exact (List.nodup_cons.1 hnd).1 hm
      · obtain ⟨p, hp, he⟩ := List.mem_map.1 hm
        have := (hO.sub (List.sublist_append_right h F)).lt hp
        have : g = w.heap.size := by cases h5; rfl
        omega
    · intro p hp
      rcases List.mem_append.1 hp with hp | hp
      · simp at hp; subst hp; exact hg
      · exact hOF.2 p hp
    · intro p hp
      simp at hp
      subst hp
      rcases h5 with h5 | h5
      · obtain ⟨cs, rfl⟩ := hvb g h5.symm
        exact (hh (g, .cells cs e (0, 0)) (by simp) : g ∈ ks ∨ W.heap.size ≤ g)
      · have : g = w.heap.size := by cases h5; rfl
        right
        rw [this]
        exact hU.size

/-! indices -/

theorem asIntOf_run (q : IntKind) (n : Int) : (asIntOf (.int q n)).run P w = .ok (q, n) w := rfl
theorem run_idxS {t e : TypeId} {sz n c : Nat} {a : Addr} {q : IntKind} {i : Int} (ht : P.underlying t = some (.slice e)) (hs : (P.info? e).map (·.size) = some sz) (h0 : 0 ≤ i) (h1 : i < n) :
    (sIndexAddr t (.slice (some a) n c) (.int q i)).run P w = .ok (.value (.pointer (some (a.add (i.toNat * sz))))) w := by
  unfold sIndexAddr Instr.indexAt
  rw [run_sV, Sem.run_bind, asIntOf_run]
  simp only [Result.andThen_ok, Sem.run_bind, run_underlying' ht, Sem.run_pure]
  rw [if_pos ⟨h0, h1⟩]
  simp only [Sem.run_bind, run_sizeOf hs, Result.andThen_ok, Sem.run_pure]
theorem run_idxA {t e : TypeId} {sz n : Nat} {a : Addr} {q : IntKind} {i : Int} (ht : P.underlying t = some (.array n e)) (hs : (P.info? e).map (·.size) = some sz) (h0 : 0 ≤ i) (h1 : i < n) :
    (sIndexAddr t (.pointer (some a)) (.int q i)).run P w = .ok (.value (.pointer (some (a.add (i.toNat * sz))))) w := by
  unfold sIndexAddr Instr.indexAt
  rw [run_sV, Sem.run_bind, asIntOf_run]
  simp only [Result.andThen_ok, Sem.run_bind, run_underlying' ht, Sem.run_pure, Instr.sureAddr]
  rw [if_pos ⟨h0, h1⟩]
  simp only [Sem.run_bind, run_sizeOf hs, Result.andThen_ok, Sem.run_pure]

/-- x[i], x a slice that can be read, its elements of one cell: address and load -/
theorem Rd.at_ {v : Value} {n : Nat} {xs : List Value} (h : Rd w 1 v n xs) {j : Nat} (hj : j < n) : ∃ a c u, v = .slice (some a) n c ∧ xs[j]? = some u ∧ w.cell? (a.add j) = some u := by
  obtain ⟨A, c, rfl, _, hl, hc⟩ := h
  have hlt : j < xs.length := by omega
  obtain ⟨a, rfl, hcell⟩ := hc j xs[j] (List.getElem?_eq_getElem hlt)
  exact ⟨a, c, _, rfl, List.getElem?_eq_getElem hlt, hcell⟩

/-! strings and bytes -/

def bytesV (l : List UInt8) : List Value := l.map fun b => .int .u8 b.toNat
theorem bytesV_len (l : List UInt8) : (bytesV l).length = l.length := by simp [bytesV]
theorem bytesV_one (l : List UInt8) : ∀ y ∈ bytesV l, y.oneCell' = true := by
  intro y hy
  obtain ⟨b, _, rfl⟩ := List.mem_map.1 hy
  rfl

theorem run_str {s d e : TypeId} {v : Value} {n : Nat} {l : List UInt8} (hs : P.underlying s = some (.slice e)) (he : P.underlying e = some (.int .u8)) (hd : P.underlying d = some .string) (h : Rd w 1 v n (bytesV l)) :
    (sConv s d v).run P w = .ok (.value (.string ⟨l.toArray⟩)) w := by
  obtain ⟨A, c, rfl, _, hl, hc⟩ := h
  rw [bytesV_len, Nat.mul_one] at hl
  unfold sConv
  rw [run_sV]
  cases A with
  | none =>
    have : l = [] := by
      cases l with
      | nil => rfl
      | cons b l => obtain ⟨a, ha, _⟩ := hc 0 _ rfl; cases ha
    subst this
    rw [run_convert_bytes_string w s d e none n c hs he hd]
    rfl
  | some a =>
    subst hl
    rw [run_convert_bytes_back w s d e a c l hs he hd (fun j hj => by
      obtain ⟨a', ha, hcell⟩ := hc j (.int .u8 l[j].toNat) (by simp [bytesV, hj])
      cases ha
      exact hcell)]
    rfl

/-- []byte(s): new memory -/
theorem st_bytes {s d e : TypeId} {x : ByteArray} {h : List (Nat × Obj)} {ks : List Nat} (hs : P.underlying s = some .string) (hd : P.underlying d = some (.slice e)) (he : P.underlying e = some (.int .u8)) (hU : Upd W w ks) (hO : Owns w h)
    (hk : ∀ g cap cs m w', Upd W w' ks → Owns w' ((g, .cells cs e (m, m + 1)) :: h) → W.heap.size ≤ g → cs.size ≤ m → x.size ≤ cap → cs.toList.take x.size = bytesV x.data.toList → x.size ≤ cs.size → K (.slice (some ⟨g, 0, none⟩) x.size cap) w') : (std P).step (sConv s d (.string x)) w K := by
  have hr := run_bytes_of_string (P := P) w s d e x hs hd he
  have hstep : (sConv s d (.string x)).run P w = .ok (.value (.slice (some ⟨w.heap.size, 0, none⟩) x.size (grownCap w x.size 0 e)))
      (w.drew.alloc (.cells (bytesRow x (grownCap w x.size 0 e)) e ((bytesRow x (grownCap w x.size 0 e)).size, (bytesRow x (grownCap w x.size 0 e)).size + 1))) := by
    unfold sConv
    rw [run_sV, hr]
    rfl
  rw [step_run hstep]
  have hge := grownCap_ge w x.size 0 e
  have hO' : Owns w.drew h := hO.ext (Upd.drew w [])
  refine hk w.heap.size _ (bytesRow x (grownCap w x.size 0 e)) (bytesRow x (grownCap w x.size 0 e)).size _ ?_ (hO'.alloc _) hU.size (Nat.le_refl _) hge ?_ ?_
  · exact (hU.then_ (Upd.drew w []) fun x hx => by cases hx).then_ (Upd.alloc _ _ []) fun x hx => by cases hx
  · simp [bytesRow, bytesV]
  · simp [bytesRow]


theorem bytes_getElem? (l : List UInt8) (i : Nat) : (⟨l.toArray⟩ : ByteArray)[i]? = l[i]? := by
  by_cases h : i < l.length
  · have h2 : i < (⟨l.toArray⟩ : ByteArray).size := by simpa [ByteArray.size] using h
    rw [getElem?_pos (⟨l.toArray⟩ : ByteArray) i h2, List.getElem?_eq_getElem h]
    rfl
  · have h2 : ¬ i < (⟨l.toArray⟩ : ByteArray).size := by simpa [ByteArray.size] using h
    rw [getElem?_neg (⟨l.toArray⟩ : ByteArray) i h2, List.getElem?_eq_none (by omega)]
theorem run_idxStr {t : TypeId} {l : List UInt8} {q : IntKind} {i : Int} {b : UInt8} (ht : P.underlying t = some .string) (h0 : 0 ≤ i) (hb : l[i.toNat]? = some b) :
    (sIndex t (.string ⟨l.toArray⟩) (.int q i)).run P w = .ok (.value (.int .u8 b.toNat)) w := by
  unfold sIndex Instr.index
  rw [run_sV, Sem.run_bind, asIntOf_run]
  simp only [Result.andThen_ok, Sem.run_bind, run_underlying' ht, Sem.run_pure]
  rw [if_pos h0, bytes_getElem?, hb]
  rfl
theorem size_mk (l : List UInt8) : (⟨l.toArray⟩ : ByteArray).size = l.length := by simp [ByteArray.size]
theorem mk_append (a b : List UInt8) : (⟨a.toArray⟩ : ByteArray) ++ ⟨b.toArray⟩ = ⟨(a ++ b).toArray⟩ := by
  apply ByteArray.ext
  simp
theorem mk_inj {a b : List UInt8} : ((⟨a.toArray⟩ : ByteArray) = ⟨b.toArray⟩) ↔ a = b := by
  constructor
  · intro h
    have := congrArg (fun x => x.data.toList) h
    simpa using this
  · rintro rfl; rfl
theorem mk_surj (s : ByteArray) : ∃ l : List UInt8, s = ⟨l.toArray⟩ := ⟨s.data.toList, by cases s; simp⟩

theorem tdiv_nat (n k : Nat) : Int.tdiv (n : Int) (k : Int) = ((n / k : Nat) : Int) := rfl
theorem tmod_nat (n k : Nat) : Int.tmod (n : Int) (k : Int) = ((n % k : Nat) : Int) := rfl

/-! slice expressions -/
theorem sliceBound_run {y : Nat} {code : BoundsCode} {q : IntKind} {i : Int} (h0 : 0 ≤ i) (h1 : i ≤ y) : (Instr.sliceBound (.int q i) y code).run P w = .ok i.toNat w := by
  unfold Instr.sliceBound
  rw [Sem.run_bind, asIntOf_run]
  simp only [Result.andThen_ok]
  rw [if_pos ⟨h0, h1⟩]
  rfl
/-- x[:hi] -/
theorem run_sliceTo {t e : TypeId} {sz n c : Nat} {A : Option Addr} {q : IntKind} {i : Int} (ht : P.underlying t = some (.slice e)) (hs : (P.info? e).map (·.size) = some sz) (h0 : 0 ≤ i) (h1 : i ≤ c) :
    (sSlice t (.slice A n c) none (some (.int q i)) none).run P w = .ok (.value (.slice (if c = 0 then A else A.map (·.add 0)) i.toNat c)) w := by
  unfold sSlice Instr.sliceAt
  rw [run_sV, Sem.run_bind, run_underlying' ht]
  simp only [Result.andThen_ok, Instr.slice, Sem.run_bind, run_underlying' ht, Instr.sliceBounds, Sem.run_pure, sliceBound_run h0 h1, run_sizeOf hs, Nat.zero_mul, Nat.sub_zero]
/-- x[lo:] -/
theorem run_sliceFrom {t e : TypeId} {sz n c : Nat} {A : Option Addr} {q : IntKind} {i : Int} (ht : P.underlying t = some (.slice e)) (hs : (P.info? e).map (·.size) = some sz) (h0 : 0 ≤ i) (h1 : i ≤ n) (hn : n ≤ c) :
    (sSlice t (.slice A n c) (some (.int q i)) none none).run P w = .ok (.value (.slice (if c = i.toNat then A else A.map (·.add (i.toNat * sz))) (n - i.toNat) (c - i.toNat))) w := by
  unfold sSlice Instr.sliceAt
  rw [run_sV, Sem.run_bind, run_underlying' ht]
  simp only [Result.andThen_ok, Instr.slice, Sem.run_bind, run_underlying' ht, Instr.sliceBounds, Sem.run_pure, sliceBound_run h0 h1, run_sizeOf hs]
theorem Rd.take {sz : Nat} {A : Option Addr} {n c i : Nat} {xs : List Value} (h : Rd w sz (.slice A n c) n xs) (hi : i ≤ n) : Rd w sz (.slice (if c = 0 then A else A.map (·.add 0)) i c) i (xs.take (i * sz)) := by
  obtain ⟨A', c', he, hc, hl, hr⟩ := h
  cases he
  have hA : (if c = 0 then A else A.map (·.add 0)) = A := by
    split
    · rfl
    · cases A <;> rfl
  rw [hA]
  refine ⟨A, c, rfl, by omega, ?_, fun j u hu => ?_⟩
  · rw [List.length_take, hl]
    exact Nat.min_eq_left (Nat.mul_le_mul_right _ hi)
  · rw [List.getElem?_take] at hu
    split at hu
    · exact hr j u hu
    · cases hu
theorem Rd.drop {sz : Nat} {A : Option Addr} {n c i : Nat} {xs : List Value} (h : Rd w sz (.slice A n c) n xs) (hi : i ≤ n) : Rd w sz (.slice (if c = i then A else A.map (·.add (i * sz))) (n - i) (c - i)) (n - i) (xs.drop (i * sz)) := by
  obtain ⟨A', c', he, hc, hl, hr⟩ := h
  cases he
  refine ⟨_, _, rfl, by omega, ?_, fun j u hu => ?_⟩
  · rw [List.length_drop, hl, Nat.sub_mul]
  · rw [List.getElem?_drop] at hu
    obtain ⟨a, rfl, hcell⟩ := hr _ u hu
    have hlt := (List.getElem?_eq_some_iff.1 hu).1
    rw [hl] at hlt
    have hne : c ≠ i := by
      rintro rfl
      have : n = c := by omega
      subst this
      omega
    rw [if_neg hne]
    exact ⟨_, rfl, by rw [add_add']; exact hcell⟩

/-- a []byte that came in, as the rows hand it over -/
theorem rd_of_nums {a : Option Addr} {len cap : Nat} {zs : List Int}
    (h : (a = none ∧ len = 0 ∧ cap = 0 ∧ zs = []) ∨ ∃ x, a = some x ∧ len ≤ cap ∧ cap ≤ maxLen ∧ zs.length = cap ∧ (∀ i, i < zs.length → w.cell? (x.add i) = some (.int .u8 (zs.getD i 0))) ∧ ∀ n ∈ zs, (Lit.int .u8 n).wf = true) :
    ∃ l : List UInt8, l.length = len ∧ l.length ≤ maxLen ∧ Rd w 1 (.slice a len cap) len (bytesV l) := by
  rcases h with ⟨rfl, rfl, rfl, rfl⟩ | ⟨x, rfl, hl, hm, hz, hc, hw⟩
  · exact ⟨[], rfl, Nat.zero_le _, Rd.nil_ _ _⟩
  · refine ⟨(zs.take len).map fun n => UInt8.ofNat n.toNat, by simp; omega, by simp; omega, some x, cap, rfl, hl, by simp [bytesV]; omega, fun j u hu => ⟨x, rfl, ?_⟩⟩
    have hj : j < len := by
      have := (List.getElem?_eq_some_iff.1 hu).1
      simp [bytesV] at this
      omega
    have hj2 : j < zs.length := by omega
    rw [hc j hj2]
    have hwf := hw zs[j] (List.getElem_mem hj2)
    have hb : 0 ≤ zs[j] ∧ zs[j] < 256 := by
      simp [Lit.wf, IntKind.min, IntKind.max, IntKind.bits, IntKind.signed] at hwf
      omega
    simp [bytesV, List.getElem?_take, hj, hj2] at hu ⊢
    rw [← hu]
    congr 1
    omega

end
end Go.Proofs.Ytplpjikcgheiiaa

/-! ### rules for what holds steps together -/

namespace Go.Proofs.Ytplpjikcgheiiaa
open Go Xf Go.RowKit
set_option linter.unusedVariables false
set_option linter.unusedSimpArgs false

section
variable {P : Program} {w w' W : World} {K : Value → World → Prop} {S : World → Prop} {k : Value → Prop}

theorem st_loop {init : List Value} {body : (Nat → Value) → List Value → World → (List Value → World → Prop) → Prop} (I : List Value → World → Prop) (μ : List Value → World → Nat) (h0 : I init w)
    (hr : ∀ dv vs w, vs.length = init.length → I vs w → body dv vs w fun vs' w' => I vs' w' ∧ μ vs' w' < μ vs w) : (std P).loop init w body := ⟨I, μ, h0, hr⟩
theorem st_call {f : FuncId} {args : Array Value} {R : Value → World → Prop} (h : CallsR P f args w R) (hk : ∀ v w', R v w' → K v w') : (std P).calls f args w K := CallsR.mono h hk
theorem st_draw {k : (World → Prop) → World → Prop} (S : World → Prop) (hS : S w.drew) (hk : k S w.drew) : (std P).draw w k := ⟨S, hS, hk⟩
theorem st_keepT {k : (World → Prop) → Prop} (S : World → Prop) (hS : S w) (hk : k S) : (std P).keepT w k := ⟨S, hS, hk⟩
theorem st_keepS {k : (World → Prop) → Prop} (S' : World → Prop) (h : ∀ w, S' w → S w) (hS : S' w) (hk : k S') : (std P).keepS S w k := ⟨S', h, hS, hk⟩
theorem st_same {k : (World → Prop) → Prop} (hS : S w) (hk : k S) : (std P).keepS S w k := ⟨S, fun _ h => h, hS, hk⟩
theorem join_std {k : (Nat → Value) → List Value → World → Prop} {b : (List Value → World → Prop) → Prop} : (std P).join k b = b fun vs w => ∀ dv, k dv vs w := rfl
theorem st_loadR {t : TypeId} {a : Addr} {u : Value} (h : (loadVar t a).run P w = .ok u w) (hk : k u) : (std P).loadR t (.pointer (some a)) w k := ⟨u, by rw [Sem.run_bind]; exact h, hk⟩

theorem cells_read {g : Nat} {cs : Array Value} {e : TypeId} {fr : Nat × Nat} (h : w.heap[g]? = some (.cells cs e fr)) : ∀ j v, cs.toList[j]? = some v → w.cell? ((⟨g, 0, none⟩ : Addr).add j) = some v := by
  intro j v hj
  rw [add_mk, Nat.zero_add, cell_at h]
  simpa using hj

theorem run_storeN {t e : TypeId} {g off : Nat} {cs : Array Value} {vs : List Value} (hn : (P.info? t).map (·.size) = some vs.length) (hb : w.heap[g]? = some (.cells cs e (0, 0))) (hl : off + vs.length ≤ cs.size) (h1 : ∀ u ∈ vs, u.oneCell' = true) :
    (sStore t (.pointer (some ⟨g, off, none⟩)) (.agg vs.toArray)).run P w = .ok .skip (w.setRow g (cs.toList.take off ++ vs ++ cs.toList.drop (off + vs.length)).toArray) := by
  have hst := run_storeCells_at P g off e vs 0 cs w hb (by simpa using hl) h1
  unfold sStore sU Instr.storeAt
  rw [Sem.run_bind, Sem.run_bind]
  simp only [Instr.sureAddr, Sem.run_pure, Result.andThen_ok]
  unfold storeVar
  rw [Sem.run_bind, run_sizeOf hn]
  have hc : (Value.agg vs.toArray).cells = vs.toArray := rfl
  simp only [Result.andThen_ok, hc, List.size_toArray, ne_eq, not_true, if_false, Nat.add_zero] at hst ⊢
  rw [hst]
  rfl

/-- a struct or an array stored into a block that is known -/
theorem st_storeN {t e : TypeId} {h : List (Nat × Obj)} {g off : Nat} {cs : Array Value} {vs : List Value} {ks : List Nat} (hn : (P.info? t).map (·.size) = some vs.length) (hU : Upd W w ks) (hO : Owns w h) (i : Nat)
    (hi : h[i]? = some (g, .cells cs e (0, 0))) (hl : off + vs.length ≤ cs.size) (h1 : ∀ u ∈ vs, u.oneCell' = true) (hg : g ∈ ks ∨ W.heap.size ≤ g)
    (hk : ∀ w', Upd W w' ks → Owns w' (h.set i (g, .cells (cs.toList.take off ++ vs ++ cs.toList.drop (off + vs.length)).toArray e (0, 0))) → K undef w') : (std P).step (sStore t (.pointer (some ⟨g, off, none⟩)) (.agg vs.toArray)) w K := by
  rw [step_skip (run_storeN hn (hO.at_ i hi) hl h1)]
  exact hk _ (hU.then_ (Upd.setRow _ _ _) fun x hx => by simp at hx; subst hx; exact hg) (hO.setRow i hi _)


theorem calls_mono {f : FuncId} {args : Array Value} {k : Value → World → Prop} {R : Ending → World → Prop} (h : CallsR P f args w k) (hr : ∀ v w', k v w' → R (.returned v) w') : Calls P f args w R :=
  Calls.mono h fun e w' ⟨v, he, hv⟩ => he ▸ hr v w' hv

theorem st_newRow {s : Sem Next} {e : TypeId} {cs : Array Value} {n c : Nat} {h : List (Nat × Obj)} {ks : List Nat} (hr : ∀ w, s.run P w = .ok (.value (.slice (some ⟨w.heap.size, 0, none⟩) n c)) (w.alloc (.cells cs e))) (hU : Upd W w ks) (hO : Owns w h)
    (hk : ∀ g w', Upd W w' ks → Owns w' ((g, .cells cs e) :: h) → W.heap.size ≤ g → K (.slice (some ⟨g, 0, none⟩) n c) w') : (std P).step s w K := by
  rw [step_run (hr w)]
  exact hk _ _ (hU.then_ (Upd.alloc _ _ []) fun x hx => by cases hx) (hO.alloc _) hU.size

/-- []byte("..") of a constant: the row is marked behind its end -/
theorem st_stringish {t e : TypeId} {g n c : Nat} {cs : Array Value} {h : List (Nat × Obj)} {ks : List Nat} (ht : P.underlying t = some (.slice e)) (he : P.underlying e = some (.int .u8)) (hU : Upd W w ks) (hO : Owns w ((g, .cells cs e (0, 0)) :: h)) (hg : g ∈ ks ∨ W.heap.size ≤ g)
    (hk : ∀ w', Upd W w' ks → Owns w' ((g, .cells cs e (cs.size, cs.size + 1)) :: h) → K (.slice (some ⟨g, 0, none⟩) n c) w') : (std P).step (sConv t t (.slice (some ⟨g, 0, none⟩) n c)) w K := by
  have hb := hO.at_ 0 rfl
  have hsh : w.shape? g = some (e, cs.size) := by simp [World.shape?, hb]
  have hrun : (sConv t t (.slice (some ⟨g, 0, none⟩) n c)).run P w = .ok (.value (.slice (some ⟨g, 0, none⟩) n c)) (w.freeze ⟨g, cs.size, none⟩ 1) := by
    unfold sConv convert
    rw [run_sV]
    simp [run_underlying' ht, run_underlying' he, markStringish, shape, freeze, Sem.run, hsh]
  rw [step_run hrun]
  have hfr : (w.freeze ⟨g, cs.size, none⟩ 1).heap[g]? = some (.cells cs e (cs.size, cs.size + 1)) := by
    simp [World.freeze, Array.getElem?_modify, hb]
  have hot : ∀ k, k ≠ g → (w.freeze ⟨g, cs.size, none⟩ 1).heap[k]? = w.heap[k]? := fun k hk => by
    simp [World.freeze, Array.getElem?_modify, Ne.symm hk]
  refine hk _ (hU.then_ (ls := [g]) ⟨rfl, rfl, rfl, by simp [World.freeze], fun k _ hn => hot k (by simpa using hn)⟩ fun x hx => by simp at hx; subst hx; exact hg) ?_
  have := hO.put 0 (o' := .cells cs e (cs.size, cs.size + 1)) rfl hfr hot
  simpa using this

end
end Go.Proofs.Ytplpjikcgheiiaa

/- Closed facts about the types of the program, and the rules for the steps at these types. Written by a program of this work. -/
namespace Go.Proofs.Ytplpjikcgheiiaa
open Go Xf
set_option linter.unusedVariables false
set_option maxRecDepth 100000

-- 2: int64
theorem u2 : Try.prog.underlying 2 = some (.int .i64) := by kernel_rfl
theorem ag2 : (Try.prog.underlying 2).map isAggD = some false := by kernel_rfl
theorem sz2 : (Try.prog.info? 2).map (·.size) = some 1 := by kernel_rfl
theorem ze2 : (Try.prog.info? 2).bind (·.zero) = some (.int .i64 0) := by kernel_rfl
theorem inf2 : ∃ i, Try.prog.info? 2 = some i ∧ i.zero = some (.int .i64 0) ∧ i.size = 1 ∧ i.bytes = 8 := info_parts (by kernel_rfl : (Try.prog.info? 2).map (fun i => (i.zero, i.size, i.bytes)) = some (some (.int .i64 0), 1, 8))
-- 3: int
theorem u3 : Try.prog.underlying 3 = some (.int .i64) := by kernel_rfl
theorem ag3 : (Try.prog.underlying 3).map isAggD = some false := by kernel_rfl
theorem sz3 : (Try.prog.info? 3).map (·.size) = some 1 := by kernel_rfl
theorem ze3 : (Try.prog.info? 3).bind (·.zero) = some (.int .i64 0) := by kernel_rfl
theorem inf3 : ∃ i, Try.prog.info? 3 = some i ∧ i.zero = some (.int .i64 0) ∧ i.size = 1 ∧ i.bytes = 8 := info_parts (by kernel_rfl : (Try.prog.info? 3).map (fun i => (i.zero, i.size, i.bytes)) = some (some (.int .i64 0), 1, 8))
-- 4: bool
theorem u4 : Try.prog.underlying 4 = some (.bool) := by kernel_rfl
theorem ag4 : (Try.prog.underlying 4).map isAggD = some false := by kernel_rfl
theorem sz4 : (Try.prog.info? 4).map (·.size) = some 1 := by kernel_rfl
theorem ze4 : (Try.prog.info? 4).bind (·.zero) = some (.bool false) := by kernel_rfl
theorem inf4 : ∃ i, Try.prog.info? 4 = some i ∧ i.zero = some (.bool false) ∧ i.size = 1 ∧ i.bytes = 1 := info_parts (by kernel_rfl : (Try.prog.info? 4).map (fun i => (i.zero, i.size, i.bytes)) = some (some (.bool false), 1, 1))
-- 5: uint8
theorem u5 : Try.prog.underlying 5 = some (.int .u8) := by kernel_rfl
theorem ag5 : (Try.prog.underlying 5).map isAggD = some false := by kernel_rfl
theorem sz5 : (Try.prog.info? 5).map (·.size) = some 1 := by kernel_rfl
theorem ze5 : (Try.prog.info? 5).bind (·.zero) = some (.int .u8 0) := by kernel_rfl
theorem inf5 : ∃ i, Try.prog.info? 5 = some i ∧ i.zero = some (.int .u8 0) ∧ i.size = 1 ∧ i.bytes = 1 := info_parts (by kernel_rfl : (Try.prog.info? 5).map (fun i => (i.zero, i.size, i.bytes)) = some (some (.int .u8 0), 1, 1))
-- 6: abi.BoundsErrorCode
theorem u6 : Try.prog.underlying 6 = some (.int .u8) := by kernel_rfl
theorem ag6 : (Try.prog.underlying 6).map isAggD = some false := by kernel_rfl
theorem sz6 : (Try.prog.info? 6).map (·.size) = some 1 := by kernel_rfl
theorem ze6 : (Try.prog.info? 6).bind (·.zero) = some (.int .u8 0) := by kernel_rfl
theorem inf6 : ∃ i, Try.prog.info? 6 = some i ∧ i.zero = some (.int .u8 0) ∧ i.size = 1 ∧ i.bytes = 1 := info_parts (by kernel_rfl : (Try.prog.info? 6).map (fun i => (i.zero, i.size, i.bytes)) = some (some (.int .u8 0), 1, 1))
-- 7: struct { x int64; y int; signed bool; code abi.BoundsErrorCode }
theorem ag7 : (Try.prog.underlying 7).map isAggD = some true := by kernel_rfl
theorem sz7 : (Try.prog.info? 7).map (·.size) = some 4 := by kernel_rfl
theorem ze7 : (Try.prog.info? 7).bind (·.zero) = some (.agg #[.int .i64 0, .int .i64 0, .bool false, .int .u8 0]) := by kernel_rfl
theorem inf7 : ∃ i, Try.prog.info? 7 = some i ∧ i.zero = some (.agg #[.int .i64 0, .int .i64 0, .bool false, .int .u8 0]) ∧ i.size = 4 ∧ i.bytes = 24 := info_parts (by kernel_rfl : (Try.prog.info? 7).map (fun i => (i.zero, i.size, i.bytes)) = some (some (.agg #[.int .i64 0, .int .i64 0, .bool false, .int .u8 0]), 4, 24))
-- 8: runtime.boundsError
theorem ag8 : (Try.prog.underlying 8).map isAggD = some true := by kernel_rfl
theorem sz8 : (Try.prog.info? 8).map (·.size) = some 4 := by kernel_rfl
theorem ze8 : (Try.prog.info? 8).bind (·.zero) = some (.agg #[.int .i64 0, .int .i64 0, .bool false, .int .u8 0]) := by kernel_rfl
theorem inf8 : ∃ i, Try.prog.info? 8 = some i ∧ i.zero = some (.agg #[.int .i64 0, .int .i64 0, .bool false, .int .u8 0]) ∧ i.size = 4 ∧ i.bytes = 24 := info_parts (by kernel_rfl : (Try.prog.info? 8).map (fun i => (i.zero, i.size, i.bytes)) = some (some (.agg #[.int .i64 0, .int .i64 0, .bool false, .int .u8 0]), 4, 24))
-- 9: string
theorem u9 : Try.prog.underlying 9 = some (.string) := by kernel_rfl
theorem ag9 : (Try.prog.underlying 9).map isAggD = some false := by kernel_rfl
theorem sz9 : (Try.prog.info? 9).map (·.size) = some 1 := by kernel_rfl
theorem ze9 : (Try.prog.info? 9).bind (·.zero) = some (.string ⟨#[]⟩) := by kernel_rfl
theorem inf9 : ∃ i, Try.prog.info? 9 = some i ∧ i.zero = some (.string ⟨#[]⟩) ∧ i.size = 1 ∧ i.bytes = 16 := info_parts (by kernel_rfl : (Try.prog.info? 9).map (fun i => (i.zero, i.size, i.bytes)) = some (some (.string ⟨#[]⟩), 1, 16))
-- 10: runtime.errorString
theorem u10 : Try.prog.underlying 10 = some (.string) := by kernel_rfl
theorem ag10 : (Try.prog.underlying 10).map isAggD = some false := by kernel_rfl
theorem sz10 : (Try.prog.info? 10).map (·.size) = some 1 := by kernel_rfl
theorem ze10 : (Try.prog.info? 10).bind (·.zero) = some (.string ⟨#[]⟩) := by kernel_rfl
theorem inf10 : ∃ i, Try.prog.info? 10 = some i ∧ i.zero = some (.string ⟨#[]⟩) ∧ i.size = 1 ∧ i.bytes = 16 := info_parts (by kernel_rfl : (Try.prog.info? 10).map (fun i => (i.zero, i.size, i.bytes)) = some (some (.string ⟨#[]⟩), 1, 16))
-- 11: runtime.plainError
theorem u11 : Try.prog.underlying 11 = some (.string) := by kernel_rfl
theorem ag11 : (Try.prog.underlying 11).map isAggD = some false := by kernel_rfl
theorem sz11 : (Try.prog.info? 11).map (·.size) = some 1 := by kernel_rfl
theorem ze11 : (Try.prog.info? 11).bind (·.zero) = some (.string ⟨#[]⟩) := by kernel_rfl
theorem inf11 : ∃ i, Try.prog.info? 11 = some i ∧ i.zero = some (.string ⟨#[]⟩) ∧ i.size = 1 ∧ i.bytes = 16 := info_parts (by kernel_rfl : (Try.prog.info? 11).map (fun i => (i.zero, i.size, i.bytes)) = some (some (.string ⟨#[]⟩), 1, 16))
-- 12: uintptr
theorem u12 : Try.prog.underlying 12 = some (.int .u64) := by kernel_rfl
theorem ag12 : (Try.prog.underlying 12).map isAggD = some false := by kernel_rfl
theorem sz12 : (Try.prog.info? 12).map (·.size) = some 1 := by kernel_rfl
theorem ze12 : (Try.prog.info? 12).bind (·.zero) = some (.int .u64 0) := by kernel_rfl
theorem inf12 : ∃ i, Try.prog.info? 12 = some i ∧ i.zero = some (.int .u64 0) ∧ i.size = 1 ∧ i.bytes = 8 := info_parts (by kernel_rfl : (Try.prog.info? 12).map (fun i => (i.zero, i.size, i.bytes)) = some (some (.int .u64 0), 1, 8))
-- 13: struct { msg string; addr uintptr }
theorem ag13 : (Try.prog.underlying 13).map isAggD = some true := by kernel_rfl
theorem sz13 : (Try.prog.info? 13).map (·.size) = some 2 := by kernel_rfl
theorem ze13 : (Try.prog.info? 13).bind (·.zero) = some (.agg #[.string ⟨#[]⟩, .int .u64 0]) := by kernel_rfl
theorem inf13 : ∃ i, Try.prog.info? 13 = some i ∧ i.zero = some (.agg #[.string ⟨#[]⟩, .int .u64 0]) ∧ i.size = 2 ∧ i.bytes = 24 := info_parts (by kernel_rfl : (Try.prog.info? 13).map (fun i => (i.zero, i.size, i.bytes)) = some (some (.agg #[.string ⟨#[]⟩, .int .u64 0]), 2, 24))
-- 14: runtime.errorAddressString
theorem ag14 : (Try.prog.underlying 14).map isAggD = some true := by kernel_rfl
theorem sz14 : (Try.prog.info? 14).map (·.size) = some 2 := by kernel_rfl
theorem ze14 : (Try.prog.info? 14).bind (·.zero) = some (.agg #[.string ⟨#[]⟩, .int .u64 0]) := by kernel_rfl
theorem inf14 : ∃ i, Try.prog.info? 14 = some i ∧ i.zero = some (.agg #[.string ⟨#[]⟩, .int .u64 0]) ∧ i.size = 2 ∧ i.bytes = 24 := info_parts (by kernel_rfl : (Try.prog.info? 14).map (fun i => (i.zero, i.size, i.bytes)) = some (some (.agg #[.string ⟨#[]⟩, .int .u64 0]), 2, 24))
-- 15: *runtime.TypeAssertionError
theorem u15 : Try.prog.underlying 15 = some (.pointer 183) := by kernel_rfl
theorem ag15 : (Try.prog.underlying 15).map isAggD = some false := by kernel_rfl
theorem sz15 : (Try.prog.info? 15).map (·.size) = some 1 := by kernel_rfl
theorem ze15 : (Try.prog.info? 15).bind (·.zero) = some (.pointer none) := by kernel_rfl
theorem inf15 : ∃ i, Try.prog.info? 15 = some i ∧ i.zero = some (.pointer none) ∧ i.size = 1 ∧ i.bytes = 8 := info_parts (by kernel_rfl : (Try.prog.info? 15).map (fun i => (i.zero, i.size, i.bytes)) = some (some (.pointer none), 1, 8))
-- 16: *runtime.PanicNilError
theorem u16 : Try.prog.underlying 16 = some (.pointer 186) := by kernel_rfl
theorem ag16 : (Try.prog.underlying 16).map isAggD = some false := by kernel_rfl
theorem sz16 : (Try.prog.info? 16).map (·.size) = some 1 := by kernel_rfl
theorem ze16 : (Try.prog.info? 16).bind (·.zero) = some (.pointer none) := by kernel_rfl
theorem inf16 : ∃ i, Try.prog.info? 16 = some i ∧ i.zero = some (.pointer none) ∧ i.size = 1 ∧ i.bytes = 8 := info_parts (by kernel_rfl : (Try.prog.info? 16).map (fun i => (i.zero, i.size, i.bytes)) = some (some (.pointer none), 1, 8))
-- 17: *abi.Type
theorem u17 : Try.prog.underlying 17 = some (.pointer 194) := by kernel_rfl
theorem ag17 : (Try.prog.underlying 17).map isAggD = some false := by kernel_rfl
theorem sz17 : (Try.prog.info? 17).map (·.size) = some 1 := by kernel_rfl
theorem ze17 : (Try.prog.info? 17).bind (·.zero) = some (.pointer none) := by kernel_rfl
theorem inf17 : ∃ i, Try.prog.info? 17 = some i ∧ i.zero = some (.pointer none) ∧ i.size = 1 ∧ i.bytes = 8 := info_parts (by kernel_rfl : (Try.prog.info? 17).map (fun i => (i.zero, i.size, i.bytes)) = some (some (.pointer none), 1, 8))
-- 18: struct { typ *abi.Type }
theorem ag18 : (Try.prog.underlying 18).map isAggD = some true := by kernel_rfl
theorem sz18 : (Try.prog.info? 18).map (·.size) = some 1 := by kernel_rfl
theorem ze18 : (Try.prog.info? 18).bind (·.zero) = some (.agg #[.pointer none]) := by kernel_rfl
theorem inf18 : ∃ i, Try.prog.info? 18 = some i ∧ i.zero = some (.agg #[.pointer none]) ∧ i.size = 1 ∧ i.bytes = 8 := info_parts (by kernel_rfl : (Try.prog.info? 18).map (fun i => (i.zero, i.size, i.bytes)) = some (some (.agg #[.pointer none]), 1, 8))
-- 19: maps.unhashableTypeError
theorem ag19 : (Try.prog.underlying 19).map isAggD = some true := by kernel_rfl
theorem sz19 : (Try.prog.info? 19).map (·.size) = some 1 := by kernel_rfl
theorem ze19 : (Try.prog.info? 19).bind (·.zero) = some (.agg #[.pointer none]) := by kernel_rfl
theorem inf19 : ∃ i, Try.prog.info? 19 = some i ∧ i.zero = some (.agg #[.pointer none]) ∧ i.size = 1 ∧ i.bytes = 8 := info_parts (by kernel_rfl : (Try.prog.info? 19).map (fun i => (i.zero, i.size, i.bytes)) = some (some (.agg #[.pointer none]), 1, 8))
-- 20: interface {}
theorem ag20 : (Try.prog.underlying 20).map isAggD = some false := by kernel_rfl
theorem sz20 : (Try.prog.info? 20).map (·.size) = some 1 := by kernel_rfl
theorem ze20 : (Try.prog.info? 20).bind (·.zero) = some (.nilIface) := by kernel_rfl
theorem inf20 : ∃ i, Try.prog.info? 20 = some i ∧ i.zero = some (.nilIface) ∧ i.size = 1 ∧ i.bytes = 16 := info_parts (by kernel_rfl : (Try.prog.info? 20).map (fun i => (i.zero, i.size, i.bytes)) = some (some (.nilIface), 1, 16))
-- 21: int32
theorem u21 : Try.prog.underlying 21 = some (.int .i32) := by kernel_rfl
theorem ag21 : (Try.prog.underlying 21).map isAggD = some false := by kernel_rfl
theorem sz21 : (Try.prog.info? 21).map (·.size) = some 1 := by kernel_rfl
theorem ze21 : (Try.prog.info? 21).bind (·.zero) = some (.int .i32 0) := by kernel_rfl
theorem inf21 : ∃ i, Try.prog.info? 21 = some i ∧ i.zero = some (.int .i32 0) ∧ i.size = 1 ∧ i.bytes = 4 := info_parts (by kernel_rfl : (Try.prog.info? 21).map (fun i => (i.zero, i.size, i.bytes)) = some (some (.int .i32 0), 1, 4))
-- 22: []flotillalaw09.Op
theorem u22 : Try.prog.underlying 22 = some (.slice 43) := by kernel_rfl
theorem ag22 : (Try.prog.underlying 22).map isAggD = some false := by kernel_rfl
theorem sz22 : (Try.prog.info? 22).map (·.size) = some 1 := by kernel_rfl
theorem ze22 : (Try.prog.info? 22).bind (·.zero) = some (.slice none 0 0) := by kernel_rfl
theorem inf22 : ∃ i, Try.prog.info? 22 = some i ∧ i.zero = some (.slice none 0 0) ∧ i.size = 1 ∧ i.bytes = 24 := info_parts (by kernel_rfl : (Try.prog.info? 22).map (fun i => (i.zero, i.size, i.bytes)) = some (some (.slice none 0 0), 1, 24))
-- 23: *stable.Device
theorem u23 : Try.prog.underlying 23 = some (.pointer 84) := by kernel_rfl
theorem ag23 : (Try.prog.underlying 23).map isAggD = some false := by kernel_rfl
theorem sz23 : (Try.prog.info? 23).map (·.size) = some 1 := by kernel_rfl
theorem ze23 : (Try.prog.info? 23).bind (·.zero) = some (.pointer none) := by kernel_rfl
theorem inf23 : ∃ i, Try.prog.info? 23 = some i ∧ i.zero = some (.pointer none) ∧ i.size = 1 ∧ i.bytes = 8 := info_parts (by kernel_rfl : (Try.prog.info? 23).map (fun i => (i.zero, i.size, i.bytes)) = some (some (.pointer none), 1, 8))
-- 24: api.Errno
theorem u24 : Try.prog.underlying 24 = some (.int .i64) := by kernel_rfl
theorem ag24 : (Try.prog.underlying 24).map isAggD = some false := by kernel_rfl
theorem sz24 : (Try.prog.info? 24).map (·.size) = some 1 := by kernel_rfl
theorem ze24 : (Try.prog.info? 24).bind (·.zero) = some (.int .i64 0) := by kernel_rfl
theorem inf24 : ∃ i, Try.prog.info? 24 = some i ∧ i.zero = some (.int .i64 0) ∧ i.size = 1 ∧ i.bytes = 8 := info_parts (by kernel_rfl : (Try.prog.info? 24).map (fun i => (i.zero, i.size, i.bytes)) = some (some (.int .i64 0), 1, 8))
-- 28: *wal.Log
theorem u28 : Try.prog.underlying 28 = some (.pointer 91) := by kernel_rfl
theorem ag28 : (Try.prog.underlying 28).map isAggD = some false := by kernel_rfl
theorem sz28 : (Try.prog.info? 28).map (·.size) = some 1 := by kernel_rfl
theorem ze28 : (Try.prog.info? 28).bind (·.zero) = some (.pointer none) := by kernel_rfl
theorem inf28 : ∃ i, Try.prog.info? 28 = some i ∧ i.zero = some (.pointer none) ∧ i.size = 1 ∧ i.bytes = 8 := info_parts (by kernel_rfl : (Try.prog.info? 28).map (fun i => (i.zero, i.size, i.bytes)) = some (some (.pointer none), 1, 8))
-- 31: []api.Record
theorem u31 : Try.prog.underlying 31 = some (.slice 41) := by kernel_rfl
theorem ag31 : (Try.prog.underlying 31).map isAggD = some false := by kernel_rfl
theorem sz31 : (Try.prog.info? 31).map (·.size) = some 1 := by kernel_rfl
theorem ze31 : (Try.prog.info? 31).bind (·.zero) = some (.slice none 0 0) := by kernel_rfl
theorem inf31 : ∃ i, Try.prog.info? 31 = some i ∧ i.zero = some (.slice none 0 0) ∧ i.size = 1 ∧ i.bytes = 24 := info_parts (by kernel_rfl : (Try.prog.info? 31).map (fun i => (i.zero, i.size, i.bytes)) = some (some (.slice none 0 0), 1, 24))
-- 32: uint64
theorem u32 : Try.prog.underlying 32 = some (.int .u64) := by kernel_rfl
theorem ag32 : (Try.prog.underlying 32).map isAggD = some false := by kernel_rfl
theorem sz32 : (Try.prog.info? 32).map (·.size) = some 1 := by kernel_rfl
theorem ze32 : (Try.prog.info? 32).bind (·.zero) = some (.int .u64 0) := by kernel_rfl
theorem inf32 : ∃ i, Try.prog.info? 32 = some i ∧ i.zero = some (.int .u64 0) ∧ i.size = 1 ∧ i.bytes = 8 := info_parts (by kernel_rfl : (Try.prog.info? 32).map (fun i => (i.zero, i.size, i.bytes)) = some (some (.int .u64 0), 1, 8))
-- 33: api.Kind
theorem u33 : Try.prog.underlying 33 = some (.int .i64) := by kernel_rfl
theorem ag33 : (Try.prog.underlying 33).map isAggD = some false := by kernel_rfl
theorem sz33 : (Try.prog.info? 33).map (·.size) = some 1 := by kernel_rfl
theorem ze33 : (Try.prog.info? 33).bind (·.zero) = some (.int .i64 0) := by kernel_rfl
theorem inf33 : ∃ i, Try.prog.info? 33 = some i ∧ i.zero = some (.int .i64 0) ∧ i.size = 1 ∧ i.bytes = 8 := info_parts (by kernel_rfl : (Try.prog.info? 33).map (fun i => (i.zero, i.size, i.bytes)) = some (some (.int .i64 0), 1, 8))
-- 34: api.Lsn
theorem u34 : Try.prog.underlying 34 = some (.int .u64) := by kernel_rfl
theorem ag34 : (Try.prog.underlying 34).map isAggD = some false := by kernel_rfl
theorem sz34 : (Try.prog.info? 34).map (·.size) = some 1 := by kernel_rfl
theorem ze34 : (Try.prog.info? 34).bind (·.zero) = some (.int .u64 0) := by kernel_rfl
theorem inf34 : ∃ i, Try.prog.info? 34 = some i ∧ i.zero = some (.int .u64 0) ∧ i.size = 1 ∧ i.bytes = 8 := info_parts (by kernel_rfl : (Try.prog.info? 34).map (fun i => (i.zero, i.size, i.bytes)) = some (some (.int .u64 0), 1, 8))
-- 35: api.ActKind
theorem u35 : Try.prog.underlying 35 = some (.int .i64) := by kernel_rfl
theorem ag35 : (Try.prog.underlying 35).map isAggD = some false := by kernel_rfl
theorem sz35 : (Try.prog.info? 35).map (·.size) = some 1 := by kernel_rfl
theorem ze35 : (Try.prog.info? 35).bind (·.zero) = some (.int .i64 0) := by kernel_rfl
theorem inf35 : ∃ i, Try.prog.info? 35 = some i ∧ i.zero = some (.int .i64 0) ∧ i.size = 1 ∧ i.bytes = 8 := info_parts (by kernel_rfl : (Try.prog.info? 35).map (fun i => (i.zero, i.size, i.bytes)) = some (some (.int .i64 0), 1, 8))
-- 36: struct { Kind api.ActKind; Key string; Old string; New string }
theorem ag36 : (Try.prog.underlying 36).map isAggD = some true := by kernel_rfl
theorem sz36 : (Try.prog.info? 36).map (·.size) = some 4 := by kernel_rfl
theorem ze36 : (Try.prog.info? 36).bind (·.zero) = some (.agg #[.int .i64 0, .string ⟨#[]⟩, .string ⟨#[]⟩, .string ⟨#[]⟩]) := by kernel_rfl
theorem inf36 : ∃ i, Try.prog.info? 36 = some i ∧ i.zero = some (.agg #[.int .i64 0, .string ⟨#[]⟩, .string ⟨#[]⟩, .string ⟨#[]⟩]) ∧ i.size = 4 ∧ i.bytes = 56 := info_parts (by kernel_rfl : (Try.prog.info? 36).map (fun i => (i.zero, i.size, i.bytes)) = some (some (.agg #[.int .i64 0, .string ⟨#[]⟩, .string ⟨#[]⟩, .string ⟨#[]⟩]), 4, 56))
-- 37: api.Act
theorem ag37 : (Try.prog.underlying 37).map isAggD = some true := by kernel_rfl
theorem sz37 : (Try.prog.info? 37).map (·.size) = some 4 := by kernel_rfl
theorem ze37 : (Try.prog.info? 37).bind (·.zero) = some (.agg #[.int .i64 0, .string ⟨#[]⟩, .string ⟨#[]⟩, .string ⟨#[]⟩]) := by kernel_rfl
theorem inf37 : ∃ i, Try.prog.info? 37 = some i ∧ i.zero = some (.agg #[.int .i64 0, .string ⟨#[]⟩, .string ⟨#[]⟩, .string ⟨#[]⟩]) ∧ i.size = 4 ∧ i.bytes = 56 := info_parts (by kernel_rfl : (Try.prog.info? 37).map (fun i => (i.zero, i.size, i.bytes)) = some (some (.agg #[.int .i64 0, .string ⟨#[]⟩, .string ⟨#[]⟩, .string ⟨#[]⟩]), 4, 56))
-- 38: []api.Txn
theorem u38 : Try.prog.underlying 38 = some (.slice 136) := by kernel_rfl
theorem ag38 : (Try.prog.underlying 38).map isAggD = some false := by kernel_rfl
theorem sz38 : (Try.prog.info? 38).map (·.size) = some 1 := by kernel_rfl
theorem ze38 : (Try.prog.info? 38).bind (·.zero) = some (.slice none 0 0) := by kernel_rfl
theorem inf38 : ∃ i, Try.prog.info? 38 = some i ∧ i.zero = some (.slice none 0 0) ∧ i.size = 1 ∧ i.bytes = 24 := info_parts (by kernel_rfl : (Try.prog.info? 38).map (fun i => (i.zero, i.size, i.bytes)) = some (some (.slice none 0 0), 1, 24))
-- 39: []api.Dirty
theorem u39 : Try.prog.underlying 39 = some (.slice 138) := by kernel_rfl
theorem ag39 : (Try.prog.underlying 39).map isAggD = some false := by kernel_rfl
theorem sz39 : (Try.prog.info? 39).map (·.size) = some 1 := by kernel_rfl
theorem ze39 : (Try.prog.info? 39).bind (·.zero) = some (.slice none 0 0) := by kernel_rfl
theorem inf39 : ∃ i, Try.prog.info? 39 = some i ∧ i.zero = some (.slice none 0 0) ∧ i.size = 1 ∧ i.bytes = 24 := info_parts (by kernel_rfl : (Try.prog.info? 39).map (fun i => (i.zero, i.size, i.bytes)) = some (some (.slice none 0 0), 1, 24))
-- 40: struct { Kind api.Kind; Lsn api.Lsn; Txn int; Prev api.Lsn; Undo api.Lsn; Page int; Act api.Act; Txn
theorem ag40 : (Try.prog.underlying 40).map isAggD = some true := by kernel_rfl
theorem sz40 : (Try.prog.info? 40).map (·.size) = some 12 := by kernel_rfl
theorem ze40 : (Try.prog.info? 40).bind (·.zero) = some (.agg #[.int .i64 0, .int .u64 0, .int .i64 0, .int .u64 0, .int .u64 0, .int .i64 0, .int .i64 0, .string ⟨#[]⟩, .string ⟨#[]⟩, .string ⟨#[]⟩, .slice none 0 0, .slice none 0 0]) := by kernel_rfl
theorem inf40 : ∃ i, Try.prog.info? 40 = some i ∧ i.zero = some (.agg #[.int .i64 0, .int .u64 0, .int .i64 0, .int .u64 0, .int .u64 0, .int .i64 0, .int .i64 0, .string ⟨#[]⟩, .string ⟨#[]⟩, .string ⟨#[]⟩, .slice none 0 0, .slice none 0 0]) ∧ i.size = 12 ∧ i.bytes = 152 := info_parts (by kernel_rfl : (Try.prog.info? 40).map (fun i => (i.zero, i.size, i.bytes)) = some (some (.agg #[.int .i64 0, .int .u64 0, .int .i64 0, .int .u64 0, .int .u64 0, .int .i64 0, .int .i64 0, .string ⟨#[]⟩, .string ⟨#[]⟩, .string ⟨#[]⟩, .slice none 0 0, .slice none 0 0]), 12, 152))
-- 41: api.Record
theorem ag41 : (Try.prog.underlying 41).map isAggD = some true := by kernel_rfl
theorem sz41 : (Try.prog.info? 41).map (·.size) = some 12 := by kernel_rfl
theorem ze41 : (Try.prog.info? 41).bind (·.zero) = some (.agg #[.int .i64 0, .int .u64 0, .int .i64 0, .int .u64 0, .int .u64 0, .int .i64 0, .int .i64 0, .string ⟨#[]⟩, .string ⟨#[]⟩, .string ⟨#[]⟩, .slice none 0 0, .slice none 0 0]) := by kernel_rfl
theorem inf41 : ∃ i, Try.prog.info? 41 = some i ∧ i.zero = some (.agg #[.int .i64 0, .int .u64 0, .int .i64 0, .int .u64 0, .int .u64 0, .int .i64 0, .int .i64 0, .string ⟨#[]⟩, .string ⟨#[]⟩, .string ⟨#[]⟩, .slice none 0 0, .slice none 0 0]) ∧ i.size = 12 ∧ i.bytes = 152 := info_parts (by kernel_rfl : (Try.prog.info? 41).map (fun i => (i.zero, i.size, i.bytes)) = some (some (.agg #[.int .i64 0, .int .u64 0, .int .i64 0, .int .u64 0, .int .u64 0, .int .i64 0, .int .i64 0, .string ⟨#[]⟩, .string ⟨#[]⟩, .string ⟨#[]⟩, .slice none 0 0, .slice none 0 0]), 12, 152))
-- 42: struct { Kind int; N int; At uint64; R api.Record }
theorem ag42 : (Try.prog.underlying 42).map isAggD = some true := by kernel_rfl
theorem sz42 : (Try.prog.info? 42).map (·.size) = some 15 := by kernel_rfl
theorem ze42 : (Try.prog.info? 42).bind (·.zero) = some (.agg #[.int .i64 0, .int .i64 0, .int .u64 0, .int .i64 0, .int .u64 0, .int .i64 0, .int .u64 0, .int .u64 0, .int .i64 0, .int .i64 0, .string ⟨#[]⟩, .string ⟨#[]⟩, .string ⟨#[]⟩, .slice none 0 0, .slice none 0 0]) := by kernel_rfl
theorem inf42 : ∃ i, Try.prog.info? 42 = some i ∧ i.zero = some (.agg #[.int .i64 0, .int .i64 0, .int .u64 0, .int .i64 0, .int .u64 0, .int .i64 0, .int .u64 0, .int .u64 0, .int .i64 0, .int .i64 0, .string ⟨#[]⟩, .string ⟨#[]⟩, .string ⟨#[]⟩, .slice none 0 0, .slice none 0 0]) ∧ i.size = 15 ∧ i.bytes = 176 := info_parts (by kernel_rfl : (Try.prog.info? 42).map (fun i => (i.zero, i.size, i.bytes)) = some (some (.agg #[.int .i64 0, .int .i64 0, .int .u64 0, .int .i64 0, .int .u64 0, .int .i64 0, .int .u64 0, .int .u64 0, .int .i64 0, .int .i64 0, .string ⟨#[]⟩, .string ⟨#[]⟩, .string ⟨#[]⟩, .slice none 0 0, .slice none 0 0]), 15, 176))
-- 43: flotillalaw09.Op
theorem ag43 : (Try.prog.underlying 43).map isAggD = some true := by kernel_rfl
theorem sz43 : (Try.prog.info? 43).map (·.size) = some 15 := by kernel_rfl
theorem ze43 : (Try.prog.info? 43).bind (·.zero) = some (.agg #[.int .i64 0, .int .i64 0, .int .u64 0, .int .i64 0, .int .u64 0, .int .i64 0, .int .u64 0, .int .u64 0, .int .i64 0, .int .i64 0, .string ⟨#[]⟩, .string ⟨#[]⟩, .string ⟨#[]⟩, .slice none 0 0, .slice none 0 0]) := by kernel_rfl
theorem inf43 : ∃ i, Try.prog.info? 43 = some i ∧ i.zero = some (.agg #[.int .i64 0, .int .i64 0, .int .u64 0, .int .i64 0, .int .u64 0, .int .i64 0, .int .u64 0, .int .u64 0, .int .i64 0, .int .i64 0, .string ⟨#[]⟩, .string ⟨#[]⟩, .string ⟨#[]⟩, .slice none 0 0, .slice none 0 0]) ∧ i.size = 15 ∧ i.bytes = 176 := info_parts (by kernel_rfl : (Try.prog.info? 43).map (fun i => (i.zero, i.size, i.bytes)) = some (some (.agg #[.int .i64 0, .int .i64 0, .int .u64 0, .int .i64 0, .int .u64 0, .int .i64 0, .int .u64 0, .int .u64 0, .int .i64 0, .int .i64 0, .string ⟨#[]⟩, .string ⟨#[]⟩, .string ⟨#[]⟩, .slice none 0 0, .slice none 0 0]), 15, 176))
-- 51: []uint8
theorem u51 : Try.prog.underlying 51 = some (.slice 5) := by kernel_rfl
theorem ag51 : (Try.prog.underlying 51).map isAggD = some false := by kernel_rfl
theorem sz51 : (Try.prog.info? 51).map (·.size) = some 1 := by kernel_rfl
theorem ze51 : (Try.prog.info? 51).bind (·.zero) = some (.slice none 0 0) := by kernel_rfl
theorem inf51 : ∃ i, Try.prog.info? 51 = some i ∧ i.zero = some (.slice none 0 0) ∧ i.size = 1 ∧ i.bytes = 24 := info_parts (by kernel_rfl : (Try.prog.info? 51).map (fun i => (i.zero, i.size, i.bytes)) = some (some (.slice none 0 0), 1, 24))
-- 52: struct { On bool; At int; B string }
theorem ag52 : (Try.prog.underlying 52).map isAggD = some true := by kernel_rfl
theorem sz52 : (Try.prog.info? 52).map (·.size) = some 3 := by kernel_rfl
theorem ze52 : (Try.prog.info? 52).bind (·.zero) = some (.agg #[.bool false, .int .i64 0, .string ⟨#[]⟩]) := by kernel_rfl
theorem inf52 : ∃ i, Try.prog.info? 52 = some i ∧ i.zero = some (.agg #[.bool false, .int .i64 0, .string ⟨#[]⟩]) ∧ i.size = 3 ∧ i.bytes = 32 := info_parts (by kernel_rfl : (Try.prog.info? 52).map (fun i => (i.zero, i.size, i.bytes)) = some (some (.agg #[.bool false, .int .i64 0, .string ⟨#[]⟩]), 3, 32))
-- 53: flotillaref08.Write
theorem ag53 : (Try.prog.underlying 53).map isAggD = some true := by kernel_rfl
theorem sz53 : (Try.prog.info? 53).map (·.size) = some 3 := by kernel_rfl
theorem ze53 : (Try.prog.info? 53).bind (·.zero) = some (.agg #[.bool false, .int .i64 0, .string ⟨#[]⟩]) := by kernel_rfl
theorem inf53 : ∃ i, Try.prog.info? 53 = some i ∧ i.zero = some (.agg #[.bool false, .int .i64 0, .string ⟨#[]⟩]) ∧ i.size = 3 ∧ i.bytes = 32 := info_parts (by kernel_rfl : (Try.prog.info? 53).map (fun i => (i.zero, i.size, i.bytes)) = some (some (.agg #[.bool false, .int .i64 0, .string ⟨#[]⟩]), 3, 32))
-- 54: [8]flotillaref08.Write
theorem u54 : Try.prog.underlying 54 = some (.array 8 53) := by kernel_rfl
theorem ag54 : (Try.prog.underlying 54).map isAggD = some true := by kernel_rfl
theorem sz54 : (Try.prog.info? 54).map (·.size) = some 24 := by kernel_rfl
theorem ze54 : (Try.prog.info? 54).bind (·.zero) = some (.agg #[.bool false, .int .i64 0, .string ⟨#[]⟩, .bool false, .int .i64 0, .string ⟨#[]⟩, .bool false, .int .i64 0, .string ⟨#[]⟩, .bool false, .int .i64 0, .string ⟨#[]⟩, .bool false, .int .i64 0, .string ⟨#[]⟩, .bool false, .int .i64 0, .string ⟨#[]⟩, .bool false, .int .i64 0, .string ⟨#[]⟩, .bool false, .int .i64 0, .string ⟨#[]⟩]) := by kernel_rfl
theorem inf54 : ∃ i, Try.prog.info? 54 = some i ∧ i.zero = some (.agg #[.bool false, .int .i64 0, .string ⟨#[]⟩, .bool false, .int .i64 0, .string ⟨#[]⟩, .bool false, .int .i64 0, .string ⟨#[]⟩, .bool false, .int .i64 0, .string ⟨#[]⟩, .bool false, .int .i64 0, .string ⟨#[]⟩, .bool false, .int .i64 0, .string ⟨#[]⟩, .bool false, .int .i64 0, .string ⟨#[]⟩, .bool false, .int .i64 0, .string ⟨#[]⟩]) ∧ i.size = 24 ∧ i.bytes = 256 := info_parts (by kernel_rfl : (Try.prog.info? 54).map (fun i => (i.zero, i.size, i.bytes)) = some (some (.agg #[.bool false, .int .i64 0, .string ⟨#[]⟩, .bool false, .int .i64 0, .string ⟨#[]⟩, .bool false, .int .i64 0, .string ⟨#[]⟩, .bool false, .int .i64 0, .string ⟨#[]⟩, .bool false, .int .i64 0, .string ⟨#[]⟩, .bool false, .int .i64 0, .string ⟨#[]⟩, .bool false, .int .i64 0, .string ⟨#[]⟩, .bool false, .int .i64 0, .string ⟨#[]⟩]), 24, 256))
-- 55: struct { B string; Up [8]flotillaref08.Write }
theorem ag55 : (Try.prog.underlying 55).map isAggD = some true := by kernel_rfl
theorem sz55 : (Try.prog.info? 55).map (·.size) = some 25 := by kernel_rfl
theorem ze55 : (Try.prog.info? 55).bind (·.zero) = some (.agg #[.string ⟨#[]⟩, .bool false, .int .i64 0, .string ⟨#[]⟩, .bool false, .int .i64 0, .string ⟨#[]⟩, .bool false, .int .i64 0, .string ⟨#[]⟩, .bool false, .int .i64 0, .string ⟨#[]⟩, .bool false, .int .i64 0, .string ⟨#[]⟩, .bool false, .int .i64 0, .string ⟨#[]⟩, .bool false, .int .i64 0, .string ⟨#[]⟩, .bool false, .int .i64 0, .string ⟨#[]⟩]) := by kernel_rfl
theorem inf55 : ∃ i, Try.prog.info? 55 = some i ∧ i.zero = some (.agg #[.string ⟨#[]⟩, .bool false, .int .i64 0, .string ⟨#[]⟩, .bool false, .int .i64 0, .string ⟨#[]⟩, .bool false, .int .i64 0, .string ⟨#[]⟩, .bool false, .int .i64 0, .string ⟨#[]⟩, .bool false, .int .i64 0, .string ⟨#[]⟩, .bool false, .int .i64 0, .string ⟨#[]⟩, .bool false, .int .i64 0, .string ⟨#[]⟩, .bool false, .int .i64 0, .string ⟨#[]⟩]) ∧ i.size = 25 ∧ i.bytes = 272 := info_parts (by kernel_rfl : (Try.prog.info? 55).map (fun i => (i.zero, i.size, i.bytes)) = some (some (.agg #[.string ⟨#[]⟩, .bool false, .int .i64 0, .string ⟨#[]⟩, .bool false, .int .i64 0, .string ⟨#[]⟩, .bool false, .int .i64 0, .string ⟨#[]⟩, .bool false, .int .i64 0, .string ⟨#[]⟩, .bool false, .int .i64 0, .string ⟨#[]⟩, .bool false, .int .i64 0, .string ⟨#[]⟩, .bool false, .int .i64 0, .string ⟨#[]⟩, .bool false, .int .i64 0, .string ⟨#[]⟩]), 25, 272))
-- 56: flotillaref08.Device
theorem ag56 : (Try.prog.underlying 56).map isAggD = some true := by kernel_rfl
theorem sz56 : (Try.prog.info? 56).map (·.size) = some 25 := by kernel_rfl
theorem ze56 : (Try.prog.info? 56).bind (·.zero) = some (.agg #[.string ⟨#[]⟩, .bool false, .int .i64 0, .string ⟨#[]⟩, .bool false, .int .i64 0, .string ⟨#[]⟩, .bool false, .int .i64 0, .string ⟨#[]⟩, .bool false, .int .i64 0, .string ⟨#[]⟩, .bool false, .int .i64 0, .string ⟨#[]⟩, .bool false, .int .i64 0, .string ⟨#[]⟩, .bool false, .int .i64 0, .string ⟨#[]⟩, .bool false, .int .i64 0, .string ⟨#[]⟩]) := by kernel_rfl
theorem inf56 : ∃ i, Try.prog.info? 56 = some i ∧ i.zero = some (.agg #[.string ⟨#[]⟩, .bool false, .int .i64 0, .string ⟨#[]⟩, .bool false, .int .i64 0, .string ⟨#[]⟩, .bool false, .int .i64 0, .string ⟨#[]⟩, .bool false, .int .i64 0, .string ⟨#[]⟩, .bool false, .int .i64 0, .string ⟨#[]⟩, .bool false, .int .i64 0, .string ⟨#[]⟩, .bool false, .int .i64 0, .string ⟨#[]⟩, .bool false, .int .i64 0, .string ⟨#[]⟩]) ∧ i.size = 25 ∧ i.bytes = 272 := info_parts (by kernel_rfl : (Try.prog.info? 56).map (fun i => (i.zero, i.size, i.bytes)) = some (some (.agg #[.string ⟨#[]⟩, .bool false, .int .i64 0, .string ⟨#[]⟩, .bool false, .int .i64 0, .string ⟨#[]⟩, .bool false, .int .i64 0, .string ⟨#[]⟩, .bool false, .int .i64 0, .string ⟨#[]⟩, .bool false, .int .i64 0, .string ⟨#[]⟩, .bool false, .int .i64 0, .string ⟨#[]⟩, .bool false, .int .i64 0, .string ⟨#[]⟩, .bool false, .int .i64 0, .string ⟨#[]⟩]), 25, 272))
-- 63: struct { Hand int; Stable int; Flies int; Kept int; Marks bool; L []api.Record }
theorem ag63 : (Try.prog.underlying 63).map isAggD = some true := by kernel_rfl
theorem sz63 : (Try.prog.info? 63).map (·.size) = some 6 := by kernel_rfl
theorem ze63 : (Try.prog.info? 63).bind (·.zero) = some (.agg #[.int .i64 0, .int .i64 0, .int .i64 0, .int .i64 0, .bool false, .slice none 0 0]) := by kernel_rfl
theorem inf63 : ∃ i, Try.prog.info? 63 = some i ∧ i.zero = some (.agg #[.int .i64 0, .int .i64 0, .int .i64 0, .int .i64 0, .bool false, .slice none 0 0]) ∧ i.size = 6 ∧ i.bytes = 64 := info_parts (by kernel_rfl : (Try.prog.info? 63).map (fun i => (i.zero, i.size, i.bytes)) = some (some (.agg #[.int .i64 0, .int .i64 0, .int .i64 0, .int .i64 0, .bool false, .slice none 0 0]), 6, 64))
-- 64: flotillaref09.Log
theorem ag64 : (Try.prog.underlying 64).map isAggD = some true := by kernel_rfl
theorem sz64 : (Try.prog.info? 64).map (·.size) = some 6 := by kernel_rfl
theorem ze64 : (Try.prog.info? 64).bind (·.zero) = some (.agg #[.int .i64 0, .int .i64 0, .int .i64 0, .int .i64 0, .bool false, .slice none 0 0]) := by kernel_rfl
theorem inf64 : ∃ i, Try.prog.info? 64 = some i ∧ i.zero = some (.agg #[.int .i64 0, .int .i64 0, .int .i64 0, .int .i64 0, .bool false, .slice none 0 0]) ∧ i.size = 6 ∧ i.bytes = 64 := info_parts (by kernel_rfl : (Try.prog.info? 64).map (fun i => (i.zero, i.size, i.bytes)) = some (some (.agg #[.int .i64 0, .int .i64 0, .int .i64 0, .int .i64 0, .bool false, .slice none 0 0]), 6, 64))
-- 81: *stable.write
theorem u81 : Try.prog.underlying 81 = some (.pointer 111) := by kernel_rfl
theorem ag81 : (Try.prog.underlying 81).map isAggD = some false := by kernel_rfl
theorem sz81 : (Try.prog.info? 81).map (·.size) = some 1 := by kernel_rfl
theorem ze81 : (Try.prog.info? 81).bind (·.zero) = some (.pointer none) := by kernel_rfl
theorem inf81 : ∃ i, Try.prog.info? 81 = some i ∧ i.zero = some (.pointer none) ∧ i.size = 1 ∧ i.bytes = 8 := info_parts (by kernel_rfl : (Try.prog.info? 81).map (fun i => (i.zero, i.size, i.bytes)) = some (some (.pointer none), 1, 8))
-- 82: [8]*stable.write
theorem u82 : Try.prog.underlying 82 = some (.array 8 81) := by kernel_rfl
theorem ag82 : (Try.prog.underlying 82).map isAggD = some true := by kernel_rfl
theorem sz82 : (Try.prog.info? 82).map (·.size) = some 8 := by kernel_rfl
theorem ze82 : (Try.prog.info? 82).bind (·.zero) = some (.agg #[.pointer none, .pointer none, .pointer none, .pointer none, .pointer none, .pointer none, .pointer none, .pointer none]) := by kernel_rfl
theorem inf82 : ∃ i, Try.prog.info? 82 = some i ∧ i.zero = some (.agg #[.pointer none, .pointer none, .pointer none, .pointer none, .pointer none, .pointer none, .pointer none, .pointer none]) ∧ i.size = 8 ∧ i.bytes = 64 := info_parts (by kernel_rfl : (Try.prog.info? 82).map (fun i => (i.zero, i.size, i.bytes)) = some (some (.agg #[.pointer none, .pointer none, .pointer none, .pointer none, .pointer none, .pointer none, .pointer none, .pointer none]), 8, 64))
-- 83: struct { b []uint8; up [8]*stable.write }
theorem ag83 : (Try.prog.underlying 83).map isAggD = some true := by kernel_rfl
theorem sz83 : (Try.prog.info? 83).map (·.size) = some 9 := by kernel_rfl
theorem ze83 : (Try.prog.info? 83).bind (·.zero) = some (.agg #[.slice none 0 0, .pointer none, .pointer none, .pointer none, .pointer none, .pointer none, .pointer none, .pointer none, .pointer none]) := by kernel_rfl
theorem inf83 : ∃ i, Try.prog.info? 83 = some i ∧ i.zero = some (.agg #[.slice none 0 0, .pointer none, .pointer none, .pointer none, .pointer none, .pointer none, .pointer none, .pointer none, .pointer none]) ∧ i.size = 9 ∧ i.bytes = 88 := info_parts (by kernel_rfl : (Try.prog.info? 83).map (fun i => (i.zero, i.size, i.bytes)) = some (some (.agg #[.slice none 0 0, .pointer none, .pointer none, .pointer none, .pointer none, .pointer none, .pointer none, .pointer none, .pointer none]), 9, 88))
-- 84: stable.Device
theorem ag84 : (Try.prog.underlying 84).map isAggD = some true := by kernel_rfl
theorem sz84 : (Try.prog.info? 84).map (·.size) = some 9 := by kernel_rfl
theorem ze84 : (Try.prog.info? 84).bind (·.zero) = some (.agg #[.slice none 0 0, .pointer none, .pointer none, .pointer none, .pointer none, .pointer none, .pointer none, .pointer none, .pointer none]) := by kernel_rfl
theorem inf84 : ∃ i, Try.prog.info? 84 = some i ∧ i.zero = some (.agg #[.slice none 0 0, .pointer none, .pointer none, .pointer none, .pointer none, .pointer none, .pointer none, .pointer none, .pointer none]) ∧ i.size = 9 ∧ i.bytes = 88 := info_parts (by kernel_rfl : (Try.prog.info? 84).map (fun i => (i.zero, i.size, i.bytes)) = some (some (.agg #[.slice none 0 0, .pointer none, .pointer none, .pointer none, .pointer none, .pointer none, .pointer none, .pointer none, .pointer none]), 9, 88))
-- 87: []wal.entry
theorem u87 : Try.prog.underlying 87 = some (.slice 95) := by kernel_rfl
theorem ag87 : (Try.prog.underlying 87).map isAggD = some false := by kernel_rfl
theorem sz87 : (Try.prog.info? 87).map (·.size) = some 1 := by kernel_rfl
theorem ze87 : (Try.prog.info? 87).bind (·.zero) = some (.slice none 0 0) := by kernel_rfl
theorem inf87 : ∃ i, Try.prog.info? 87 = some i ∧ i.zero = some (.slice none 0 0) ∧ i.size = 1 ∧ i.bytes = 24 := info_parts (by kernel_rfl : (Try.prog.info? 87).map (fun i => (i.zero, i.size, i.bytes)) = some (some (.slice none 0 0), 1, 24))
-- 90: struct { d *stable.Device; hand int; l []wal.entry; size int; stable int; flies int; marked int; twi
theorem ag90 : (Try.prog.underlying 90).map isAggD = some true := by kernel_rfl
theorem sz90 : (Try.prog.info? 90).map (·.size) = some 9 := by kernel_rfl
theorem ze90 : (Try.prog.info? 90).bind (·.zero) = some (.agg #[.pointer none, .int .i64 0, .slice none 0 0, .int .i64 0, .int .i64 0, .int .i64 0, .int .i64 0, .bool false, .int .i64 0]) := by kernel_rfl
theorem inf90 : ∃ i, Try.prog.info? 90 = some i ∧ i.zero = some (.agg #[.pointer none, .int .i64 0, .slice none 0 0, .int .i64 0, .int .i64 0, .int .i64 0, .int .i64 0, .bool false, .int .i64 0]) ∧ i.size = 9 ∧ i.bytes = 88 := info_parts (by kernel_rfl : (Try.prog.info? 90).map (fun i => (i.zero, i.size, i.bytes)) = some (some (.agg #[.pointer none, .int .i64 0, .slice none 0 0, .int .i64 0, .int .i64 0, .int .i64 0, .int .i64 0, .bool false, .int .i64 0]), 9, 88))
-- 91: wal.Log
theorem ag91 : (Try.prog.underlying 91).map isAggD = some true := by kernel_rfl
theorem sz91 : (Try.prog.info? 91).map (·.size) = some 9 := by kernel_rfl
theorem ze91 : (Try.prog.info? 91).bind (·.zero) = some (.agg #[.pointer none, .int .i64 0, .slice none 0 0, .int .i64 0, .int .i64 0, .int .i64 0, .int .i64 0, .bool false, .int .i64 0]) := by kernel_rfl
theorem inf91 : ∃ i, Try.prog.info? 91 = some i ∧ i.zero = some (.agg #[.pointer none, .int .i64 0, .slice none 0 0, .int .i64 0, .int .i64 0, .int .i64 0, .int .i64 0, .bool false, .int .i64 0]) ∧ i.size = 9 ∧ i.bytes = 88 := info_parts (by kernel_rfl : (Try.prog.info? 91).map (fun i => (i.zero, i.size, i.bytes)) = some (some (.agg #[.pointer none, .int .i64 0, .slice none 0 0, .int .i64 0, .int .i64 0, .int .i64 0, .int .i64 0, .bool false, .int .i64 0]), 9, 88))
-- 93: []wal.layer
theorem u93 : Try.prog.underlying 93 = some (.slice 99) := by kernel_rfl
theorem ag93 : (Try.prog.underlying 93).map isAggD = some false := by kernel_rfl
theorem sz93 : (Try.prog.info? 93).map (·.size) = some 1 := by kernel_rfl
theorem ze93 : (Try.prog.info? 93).bind (·.zero) = some (.slice none 0 0) := by kernel_rfl
theorem inf93 : ∃ i, Try.prog.info? 93 = some i ∧ i.zero = some (.slice none 0 0) ∧ i.size = 1 ∧ i.bytes = 24 := info_parts (by kernel_rfl : (Try.prog.info? 93).map (fun i => (i.zero, i.size, i.bytes)) = some (some (.slice none 0 0), 1, 24))
-- 94: struct { r api.Record; b []uint8 }
theorem ag94 : (Try.prog.underlying 94).map isAggD = some true := by kernel_rfl
theorem sz94 : (Try.prog.info? 94).map (·.size) = some 13 := by kernel_rfl
theorem ze94 : (Try.prog.info? 94).bind (·.zero) = some (.agg #[.int .i64 0, .int .u64 0, .int .i64 0, .int .u64 0, .int .u64 0, .int .i64 0, .int .i64 0, .string ⟨#[]⟩, .string ⟨#[]⟩, .string ⟨#[]⟩, .slice none 0 0, .slice none 0 0, .slice none 0 0]) := by kernel_rfl
theorem inf94 : ∃ i, Try.prog.info? 94 = some i ∧ i.zero = some (.agg #[.int .i64 0, .int .u64 0, .int .i64 0, .int .u64 0, .int .u64 0, .int .i64 0, .int .i64 0, .string ⟨#[]⟩, .string ⟨#[]⟩, .string ⟨#[]⟩, .slice none 0 0, .slice none 0 0, .slice none 0 0]) ∧ i.size = 13 ∧ i.bytes = 176 := info_parts (by kernel_rfl : (Try.prog.info? 94).map (fun i => (i.zero, i.size, i.bytes)) = some (some (.agg #[.int .i64 0, .int .u64 0, .int .i64 0, .int .u64 0, .int .u64 0, .int .i64 0, .int .i64 0, .string ⟨#[]⟩, .string ⟨#[]⟩, .string ⟨#[]⟩, .slice none 0 0, .slice none 0 0, .slice none 0 0]), 13, 176))
-- 95: wal.entry
theorem ag95 : (Try.prog.underlying 95).map isAggD = some true := by kernel_rfl
theorem sz95 : (Try.prog.info? 95).map (·.size) = some 13 := by kernel_rfl
theorem ze95 : (Try.prog.info? 95).bind (·.zero) = some (.agg #[.int .i64 0, .int .u64 0, .int .i64 0, .int .u64 0, .int .u64 0, .int .i64 0, .int .i64 0, .string ⟨#[]⟩, .string ⟨#[]⟩, .string ⟨#[]⟩, .slice none 0 0, .slice none 0 0, .slice none 0 0]) := by kernel_rfl
theorem inf95 : ∃ i, Try.prog.info? 95 = some i ∧ i.zero = some (.agg #[.int .i64 0, .int .u64 0, .int .i64 0, .int .u64 0, .int .u64 0, .int .i64 0, .int .i64 0, .string ⟨#[]⟩, .string ⟨#[]⟩, .string ⟨#[]⟩, .slice none 0 0, .slice none 0 0, .slice none 0 0]) ∧ i.size = 13 ∧ i.bytes = 176 := info_parts (by kernel_rfl : (Try.prog.info? 95).map (fun i => (i.zero, i.size, i.bytes)) = some (some (.agg #[.int .i64 0, .int .u64 0, .int .i64 0, .int .u64 0, .int .u64 0, .int .i64 0, .int .i64 0, .string ⟨#[]⟩, .string ⟨#[]⟩, .string ⟨#[]⟩, .slice none 0 0, .slice none 0 0, .slice none 0 0]), 13, 176))
-- 96: struct {}
theorem ag96 : (Try.prog.underlying 96).map isAggD = some true := by kernel_rfl
theorem sz96 : (Try.prog.info? 96).map (·.size) = some 0 := by kernel_rfl
theorem ze96 : (Try.prog.info? 96).bind (·.zero) = some (.agg #[]) := by kernel_rfl
theorem inf96 : ∃ i, Try.prog.info? 96 = some i ∧ i.zero = some (.agg #[]) ∧ i.size = 0 ∧ i.bytes = 0 := info_parts (by kernel_rfl : (Try.prog.info? 96).map (fun i => (i.zero, i.size, i.bytes)) = some (some (.agg #[]), 0, 0))
-- 97: wal.fill
theorem ag97 : (Try.prog.underlying 97).map isAggD = some true := by kernel_rfl
theorem sz97 : (Try.prog.info? 97).map (·.size) = some 0 := by kernel_rfl
theorem ze97 : (Try.prog.info? 97).bind (·.zero) = some (.agg #[]) := by kernel_rfl
theorem inf97 : ∃ i, Try.prog.info? 97 = some i ∧ i.zero = some (.agg #[]) ∧ i.size = 0 ∧ i.bytes = 0 := info_parts (by kernel_rfl : (Try.prog.info? 97).map (fun i => (i.zero, i.size, i.bytes)) = some (some (.agg #[]), 0, 0))
-- 98: interface { wal.lay([]uint8) []uint8 }
theorem ag98 : (Try.prog.underlying 98).map isAggD = some false := by kernel_rfl
theorem sz98 : (Try.prog.info? 98).map (·.size) = some 1 := by kernel_rfl
theorem ze98 : (Try.prog.info? 98).bind (·.zero) = some (.nilIface) := by kernel_rfl
theorem inf98 : ∃ i, Try.prog.info? 98 = some i ∧ i.zero = some (.nilIface) ∧ i.size = 1 ∧ i.bytes = 16 := info_parts (by kernel_rfl : (Try.prog.info? 98).map (fun i => (i.zero, i.size, i.bytes)) = some (some (.nilIface), 1, 16))
-- 99: wal.layer
theorem ag99 : (Try.prog.underlying 99).map isAggD = some false := by kernel_rfl
theorem sz99 : (Try.prog.info? 99).map (·.size) = some 1 := by kernel_rfl
theorem ze99 : (Try.prog.info? 99).bind (·.zero) = some (.nilIface) := by kernel_rfl
theorem inf99 : ∃ i, Try.prog.info? 99 = some i ∧ i.zero = some (.nilIface) ∧ i.size = 1 ∧ i.bytes = 16 := info_parts (by kernel_rfl : (Try.prog.info? 99).map (fun i => (i.zero, i.size, i.bytes)) = some (some (.nilIface), 1, 16))
-- 101: *enc.Writer
theorem u101 : Try.prog.underlying 101 = some (.pointer 129) := by kernel_rfl
theorem ag101 : (Try.prog.underlying 101).map isAggD = some false := by kernel_rfl
theorem sz101 : (Try.prog.info? 101).map (·.size) = some 1 := by kernel_rfl
theorem ze101 : (Try.prog.info? 101).bind (·.zero) = some (.pointer none) := by kernel_rfl
theorem inf101 : ∃ i, Try.prog.info? 101 = some i ∧ i.zero = some (.pointer none) ∧ i.size = 1 ∧ i.bytes = 8 := info_parts (by kernel_rfl : (Try.prog.info? 101).map (fun i => (i.zero, i.size, i.bytes)) = some (some (.pointer none), 1, 8))
-- 104: uint32
theorem u104 : Try.prog.underlying 104 = some (.int .u32) := by kernel_rfl
theorem ag104 : (Try.prog.underlying 104).map isAggD = some false := by kernel_rfl
theorem sz104 : (Try.prog.info? 104).map (·.size) = some 1 := by kernel_rfl
theorem ze104 : (Try.prog.info? 104).bind (·.zero) = some (.int .u32 0) := by kernel_rfl
theorem inf104 : ∃ i, Try.prog.info? 104 = some i ∧ i.zero = some (.int .u32 0) ∧ i.size = 1 ∧ i.bytes = 4 := info_parts (by kernel_rfl : (Try.prog.info? 104).map (fun i => (i.zero, i.size, i.bytes)) = some (some (.int .u32 0), 1, 4))
-- 110: struct { at int; b []uint8 }
theorem ag110 : (Try.prog.underlying 110).map isAggD = some true := by kernel_rfl
theorem sz110 : (Try.prog.info? 110).map (·.size) = some 2 := by kernel_rfl
theorem ze110 : (Try.prog.info? 110).bind (·.zero) = some (.agg #[.int .i64 0, .slice none 0 0]) := by kernel_rfl
theorem inf110 : ∃ i, Try.prog.info? 110 = some i ∧ i.zero = some (.agg #[.int .i64 0, .slice none 0 0]) ∧ i.size = 2 ∧ i.bytes = 32 := info_parts (by kernel_rfl : (Try.prog.info? 110).map (fun i => (i.zero, i.size, i.bytes)) = some (some (.agg #[.int .i64 0, .slice none 0 0]), 2, 32))
-- 111: stable.write
theorem ag111 : (Try.prog.underlying 111).map isAggD = some true := by kernel_rfl
theorem sz111 : (Try.prog.info? 111).map (·.size) = some 2 := by kernel_rfl
theorem ze111 : (Try.prog.info? 111).bind (·.zero) = some (.agg #[.int .i64 0, .slice none 0 0]) := by kernel_rfl
theorem inf111 : ∃ i, Try.prog.info? 111 = some i ∧ i.zero = some (.agg #[.int .i64 0, .slice none 0 0]) ∧ i.size = 2 ∧ i.bytes = 32 := info_parts (by kernel_rfl : (Try.prog.info? 111).map (fun i => (i.zero, i.size, i.bytes)) = some (some (.agg #[.int .i64 0, .slice none 0 0]), 2, 32))
-- 126: struct { b []uint8 }
theorem ag126 : (Try.prog.underlying 126).map isAggD = some true := by kernel_rfl
theorem sz126 : (Try.prog.info? 126).map (·.size) = some 1 := by kernel_rfl
theorem ze126 : (Try.prog.info? 126).bind (·.zero) = some (.agg #[.slice none 0 0]) := by kernel_rfl
theorem inf126 : ∃ i, Try.prog.info? 126 = some i ∧ i.zero = some (.agg #[.slice none 0 0]) ∧ i.size = 1 ∧ i.bytes = 24 := info_parts (by kernel_rfl : (Try.prog.info? 126).map (fun i => (i.zero, i.size, i.bytes)) = some (some (.agg #[.slice none 0 0]), 1, 24))
-- 127: enc.buf
theorem ag127 : (Try.prog.underlying 127).map isAggD = some true := by kernel_rfl
theorem sz127 : (Try.prog.info? 127).map (·.size) = some 1 := by kernel_rfl
theorem ze127 : (Try.prog.info? 127).bind (·.zero) = some (.agg #[.slice none 0 0]) := by kernel_rfl
theorem inf127 : ∃ i, Try.prog.info? 127 = some i ∧ i.zero = some (.agg #[.slice none 0 0]) ∧ i.size = 1 ∧ i.bytes = 24 := info_parts (by kernel_rfl : (Try.prog.info? 127).map (fun i => (i.zero, i.size, i.bytes)) = some (some (.agg #[.slice none 0 0]), 1, 24))
-- 128: struct { enc.buf }
theorem ag128 : (Try.prog.underlying 128).map isAggD = some true := by kernel_rfl
theorem sz128 : (Try.prog.info? 128).map (·.size) = some 1 := by kernel_rfl
theorem ze128 : (Try.prog.info? 128).bind (·.zero) = some (.agg #[.slice none 0 0]) := by kernel_rfl
theorem inf128 : ∃ i, Try.prog.info? 128 = some i ∧ i.zero = some (.agg #[.slice none 0 0]) ∧ i.size = 1 ∧ i.bytes = 24 := info_parts (by kernel_rfl : (Try.prog.info? 128).map (fun i => (i.zero, i.size, i.bytes)) = some (some (.agg #[.slice none 0 0]), 1, 24))
-- 129: enc.Writer
theorem ag129 : (Try.prog.underlying 129).map isAggD = some true := by kernel_rfl
theorem sz129 : (Try.prog.info? 129).map (·.size) = some 1 := by kernel_rfl
theorem ze129 : (Try.prog.info? 129).bind (·.zero) = some (.agg #[.slice none 0 0]) := by kernel_rfl
theorem inf129 : ∃ i, Try.prog.info? 129 = some i ∧ i.zero = some (.agg #[.slice none 0 0]) ∧ i.size = 1 ∧ i.bytes = 24 := info_parts (by kernel_rfl : (Try.prog.info? 129).map (fun i => (i.zero, i.size, i.bytes)) = some (some (.agg #[.slice none 0 0]), 1, 24))
-- 132: uint
theorem u132 : Try.prog.underlying 132 = some (.int .u64) := by kernel_rfl
theorem ag132 : (Try.prog.underlying 132).map isAggD = some false := by kernel_rfl
theorem sz132 : (Try.prog.info? 132).map (·.size) = some 1 := by kernel_rfl
theorem ze132 : (Try.prog.info? 132).bind (·.zero) = some (.int .u64 0) := by kernel_rfl
theorem inf132 : ∃ i, Try.prog.info? 132 = some i ∧ i.zero = some (.int .u64 0) ∧ i.size = 1 ∧ i.bytes = 8 := info_parts (by kernel_rfl : (Try.prog.info? 132).map (fun i => (i.zero, i.size, i.bytes)) = some (some (.int .u64 0), 1, 8))
-- 134: api.TxnState
theorem u134 : Try.prog.underlying 134 = some (.int .i64) := by kernel_rfl
theorem ag134 : (Try.prog.underlying 134).map isAggD = some false := by kernel_rfl
theorem sz134 : (Try.prog.info? 134).map (·.size) = some 1 := by kernel_rfl
theorem ze134 : (Try.prog.info? 134).bind (·.zero) = some (.int .i64 0) := by kernel_rfl
theorem inf134 : ∃ i, Try.prog.info? 134 = some i ∧ i.zero = some (.int .i64 0) ∧ i.size = 1 ∧ i.bytes = 8 := info_parts (by kernel_rfl : (Try.prog.info? 134).map (fun i => (i.zero, i.size, i.bytes)) = some (some (.int .i64 0), 1, 8))
-- 135: struct { ID int; State api.TxnState; Last api.Lsn }
theorem ag135 : (Try.prog.underlying 135).map isAggD = some true := by kernel_rfl
theorem sz135 : (Try.prog.info? 135).map (·.size) = some 3 := by kernel_rfl
theorem ze135 : (Try.prog.info? 135).bind (·.zero) = some (.agg #[.int .i64 0, .int .i64 0, .int .u64 0]) := by kernel_rfl
theorem inf135 : ∃ i, Try.prog.info? 135 = some i ∧ i.zero = some (.agg #[.int .i64 0, .int .i64 0, .int .u64 0]) ∧ i.size = 3 ∧ i.bytes = 24 := info_parts (by kernel_rfl : (Try.prog.info? 135).map (fun i => (i.zero, i.size, i.bytes)) = some (some (.agg #[.int .i64 0, .int .i64 0, .int .u64 0]), 3, 24))
-- 136: api.Txn
theorem ag136 : (Try.prog.underlying 136).map isAggD = some true := by kernel_rfl
theorem sz136 : (Try.prog.info? 136).map (·.size) = some 3 := by kernel_rfl
theorem ze136 : (Try.prog.info? 136).bind (·.zero) = some (.agg #[.int .i64 0, .int .i64 0, .int .u64 0]) := by kernel_rfl
theorem inf136 : ∃ i, Try.prog.info? 136 = some i ∧ i.zero = some (.agg #[.int .i64 0, .int .i64 0, .int .u64 0]) ∧ i.size = 3 ∧ i.bytes = 24 := info_parts (by kernel_rfl : (Try.prog.info? 136).map (fun i => (i.zero, i.size, i.bytes)) = some (some (.agg #[.int .i64 0, .int .i64 0, .int .u64 0]), 3, 24))
-- 137: struct { Page int; Rec api.Lsn }
theorem ag137 : (Try.prog.underlying 137).map isAggD = some true := by kernel_rfl
theorem sz137 : (Try.prog.info? 137).map (·.size) = some 2 := by kernel_rfl
theorem ze137 : (Try.prog.info? 137).bind (·.zero) = some (.agg #[.int .i64 0, .int .u64 0]) := by kernel_rfl
theorem inf137 : ∃ i, Try.prog.info? 137 = some i ∧ i.zero = some (.agg #[.int .i64 0, .int .u64 0]) ∧ i.size = 2 ∧ i.bytes = 16 := info_parts (by kernel_rfl : (Try.prog.info? 137).map (fun i => (i.zero, i.size, i.bytes)) = some (some (.agg #[.int .i64 0, .int .u64 0]), 2, 16))
-- 138: api.Dirty
theorem ag138 : (Try.prog.underlying 138).map isAggD = some true := by kernel_rfl
theorem sz138 : (Try.prog.info? 138).map (·.size) = some 2 := by kernel_rfl
theorem ze138 : (Try.prog.info? 138).bind (·.zero) = some (.agg #[.int .i64 0, .int .u64 0]) := by kernel_rfl
theorem inf138 : ∃ i, Try.prog.info? 138 = some i ∧ i.zero = some (.agg #[.int .i64 0, .int .u64 0]) ∧ i.size = 2 ∧ i.bytes = 16 := info_parts (by kernel_rfl : (Try.prog.info? 138).map (fun i => (i.zero, i.size, i.bytes)) = some (some (.agg #[.int .i64 0, .int .u64 0]), 2, 16))
-- 146: *enc.Reader
theorem u146 : Try.prog.underlying 146 = some (.pointer 163) := by kernel_rfl
theorem ag146 : (Try.prog.underlying 146).map isAggD = some false := by kernel_rfl
theorem sz146 : (Try.prog.info? 146).map (·.size) = some 1 := by kernel_rfl
theorem ze146 : (Try.prog.info? 146).bind (·.zero) = some (.pointer none) := by kernel_rfl
theorem inf146 : ∃ i, Try.prog.info? 146 = some i ∧ i.zero = some (.pointer none) ∧ i.size = 1 ∧ i.bytes = 8 := info_parts (by kernel_rfl : (Try.prog.info? 146).map (fun i => (i.zero, i.size, i.bytes)) = some (some (.pointer none), 1, 8))
-- 149: uint16
theorem u149 : Try.prog.underlying 149 = some (.int .u16) := by kernel_rfl
theorem ag149 : (Try.prog.underlying 149).map isAggD = some false := by kernel_rfl
theorem sz149 : (Try.prog.info? 149).map (·.size) = some 1 := by kernel_rfl
theorem ze149 : (Try.prog.info? 149).bind (·.zero) = some (.int .u16 0) := by kernel_rfl
theorem inf149 : ∃ i, Try.prog.info? 149 = some i ∧ i.zero = some (.int .u16 0) ∧ i.size = 1 ∧ i.bytes = 2 := info_parts (by kernel_rfl : (Try.prog.info? 149).map (fun i => (i.zero, i.size, i.bytes)) = some (some (.int .u16 0), 1, 2))
-- 154: struct { B string; At int; Err api.Errno }
theorem ag154 : (Try.prog.underlying 154).map isAggD = some true := by kernel_rfl
theorem sz154 : (Try.prog.info? 154).map (·.size) = some 3 := by kernel_rfl
theorem ze154 : (Try.prog.info? 154).bind (·.zero) = some (.agg #[.string ⟨#[]⟩, .int .i64 0, .int .i64 0]) := by kernel_rfl
theorem inf154 : ∃ i, Try.prog.info? 154 = some i ∧ i.zero = some (.agg #[.string ⟨#[]⟩, .int .i64 0, .int .i64 0]) ∧ i.size = 3 ∧ i.bytes = 32 := info_parts (by kernel_rfl : (Try.prog.info? 154).map (fun i => (i.zero, i.size, i.bytes)) = some (some (.agg #[.string ⟨#[]⟩, .int .i64 0, .int .i64 0]), 3, 32))
-- 155: flotillaref01.Reader
theorem ag155 : (Try.prog.underlying 155).map isAggD = some true := by kernel_rfl
theorem sz155 : (Try.prog.info? 155).map (·.size) = some 3 := by kernel_rfl
theorem ze155 : (Try.prog.info? 155).bind (·.zero) = some (.agg #[.string ⟨#[]⟩, .int .i64 0, .int .i64 0]) := by kernel_rfl
theorem inf155 : ∃ i, Try.prog.info? 155 = some i ∧ i.zero = some (.agg #[.string ⟨#[]⟩, .int .i64 0, .int .i64 0]) ∧ i.size = 3 ∧ i.bytes = 32 := info_parts (by kernel_rfl : (Try.prog.info? 155).map (fun i => (i.zero, i.size, i.bytes)) = some (some (.agg #[.string ⟨#[]⟩, .int .i64 0, .int .i64 0]), 3, 32))
-- 162: struct { enc.buf; err api.Errno }
theorem ag162 : (Try.prog.underlying 162).map isAggD = some true := by kernel_rfl
theorem sz162 : (Try.prog.info? 162).map (·.size) = some 2 := by kernel_rfl
theorem ze162 : (Try.prog.info? 162).bind (·.zero) = some (.agg #[.slice none 0 0, .int .i64 0]) := by kernel_rfl
theorem inf162 : ∃ i, Try.prog.info? 162 = some i ∧ i.zero = some (.agg #[.slice none 0 0, .int .i64 0]) ∧ i.size = 2 ∧ i.bytes = 32 := info_parts (by kernel_rfl : (Try.prog.info? 162).map (fun i => (i.zero, i.size, i.bytes)) = some (some (.agg #[.slice none 0 0, .int .i64 0]), 2, 32))
-- 163: enc.Reader
theorem ag163 : (Try.prog.underlying 163).map isAggD = some true := by kernel_rfl
theorem sz163 : (Try.prog.info? 163).map (·.size) = some 2 := by kernel_rfl
theorem ze163 : (Try.prog.info? 163).bind (·.zero) = some (.agg #[.slice none 0 0, .int .i64 0]) := by kernel_rfl
theorem inf163 : ∃ i, Try.prog.info? 163 = some i ∧ i.zero = some (.agg #[.slice none 0 0, .int .i64 0]) ∧ i.size = 2 ∧ i.bytes = 32 := info_parts (by kernel_rfl : (Try.prog.info? 163).map (fun i => (i.zero, i.size, i.bytes)) = some (some (.agg #[.slice none 0 0, .int .i64 0]), 2, 32))
-- 165: struct { why api.Errno }
theorem ag165 : (Try.prog.underlying 165).map isAggD = some true := by kernel_rfl
theorem sz165 : (Try.prog.info? 165).map (·.size) = some 1 := by kernel_rfl
theorem ze165 : (Try.prog.info? 165).bind (·.zero) = some (.agg #[.int .i64 0]) := by kernel_rfl
theorem inf165 : ∃ i, Try.prog.info? 165 = some i ∧ i.zero = some (.agg #[.int .i64 0]) ∧ i.size = 1 ∧ i.bytes = 8 := info_parts (by kernel_rfl : (Try.prog.info? 165).map (fun i => (i.zero, i.size, i.bytes)) = some (some (.agg #[.int .i64 0]), 1, 8))
-- 166: rec.fault
theorem ag166 : (Try.prog.underlying 166).map isAggD = some true := by kernel_rfl
theorem sz166 : (Try.prog.info? 166).map (·.size) = some 1 := by kernel_rfl
theorem ze166 : (Try.prog.info? 166).bind (·.zero) = some (.agg #[.int .i64 0]) := by kernel_rfl
theorem inf166 : ∃ i, Try.prog.info? 166 = some i ∧ i.zero = some (.agg #[.int .i64 0]) ∧ i.size = 1 ∧ i.bytes = 8 := info_parts (by kernel_rfl : (Try.prog.info? 166).map (fun i => (i.zero, i.size, i.bytes)) = some (some (.agg #[.int .i64 0]), 1, 8))
-- 172: [16]uint32
theorem u172 : Try.prog.underlying 172 = some (.array 16 104) := by kernel_rfl
theorem ag172 : (Try.prog.underlying 172).map isAggD = some true := by kernel_rfl
theorem sz172 : (Try.prog.info? 172).map (·.size) = some 16 := by kernel_rfl
theorem ze172 : (Try.prog.info? 172).bind (·.zero) = some (.agg #[.int .u32 0, .int .u32 0, .int .u32 0, .int .u32 0, .int .u32 0, .int .u32 0, .int .u32 0, .int .u32 0, .int .u32 0, .int .u32 0, .int .u32 0, .int .u32 0, .int .u32 0, .int .u32 0, .int .u32 0, .int .u32 0]) := by kernel_rfl
theorem inf172 : ∃ i, Try.prog.info? 172 = some i ∧ i.zero = some (.agg #[.int .u32 0, .int .u32 0, .int .u32 0, .int .u32 0, .int .u32 0, .int .u32 0, .int .u32 0, .int .u32 0, .int .u32 0, .int .u32 0, .int .u32 0, .int .u32 0, .int .u32 0, .int .u32 0, .int .u32 0, .int .u32 0]) ∧ i.size = 16 ∧ i.bytes = 64 := info_parts (by kernel_rfl : (Try.prog.info? 172).map (fun i => (i.zero, i.size, i.bytes)) = some (some (.agg #[.int .u32 0, .int .u32 0, .int .u32 0, .int .u32 0, .int .u32 0, .int .u32 0, .int .u32 0, .int .u32 0, .int .u32 0, .int .u32 0, .int .u32 0, .int .u32 0, .int .u32 0, .int .u32 0, .int .u32 0, .int .u32 0]), 16, 64))
-- 182: struct { _interface *abi.Type; concrete *abi.Type; asserted *abi.Type; missingMethod string }
theorem ag182 : (Try.prog.underlying 182).map isAggD = some true := by kernel_rfl
theorem sz182 : (Try.prog.info? 182).map (·.size) = some 4 := by kernel_rfl
theorem ze182 : (Try.prog.info? 182).bind (·.zero) = some (.agg #[.pointer none, .pointer none, .pointer none, .string ⟨#[]⟩]) := by kernel_rfl
theorem inf182 : ∃ i, Try.prog.info? 182 = some i ∧ i.zero = some (.agg #[.pointer none, .pointer none, .pointer none, .string ⟨#[]⟩]) ∧ i.size = 4 ∧ i.bytes = 40 := info_parts (by kernel_rfl : (Try.prog.info? 182).map (fun i => (i.zero, i.size, i.bytes)) = some (some (.agg #[.pointer none, .pointer none, .pointer none, .string ⟨#[]⟩]), 4, 40))
-- 183: runtime.TypeAssertionError
theorem ag183 : (Try.prog.underlying 183).map isAggD = some true := by kernel_rfl
theorem sz183 : (Try.prog.info? 183).map (·.size) = some 4 := by kernel_rfl
theorem ze183 : (Try.prog.info? 183).bind (·.zero) = some (.agg #[.pointer none, .pointer none, .pointer none, .string ⟨#[]⟩]) := by kernel_rfl
theorem inf183 : ∃ i, Try.prog.info? 183 = some i ∧ i.zero = some (.agg #[.pointer none, .pointer none, .pointer none, .string ⟨#[]⟩]) ∧ i.size = 4 ∧ i.bytes = 40 := info_parts (by kernel_rfl : (Try.prog.info? 183).map (fun i => (i.zero, i.size, i.bytes)) = some (some (.agg #[.pointer none, .pointer none, .pointer none, .string ⟨#[]⟩]), 4, 40))
-- 184: [0]*runtime.PanicNilError
theorem u184 : Try.prog.underlying 184 = some (.array 0 16) := by kernel_rfl
theorem ag184 : (Try.prog.underlying 184).map isAggD = some true := by kernel_rfl
theorem sz184 : (Try.prog.info? 184).map (·.size) = some 0 := by kernel_rfl
theorem ze184 : (Try.prog.info? 184).bind (·.zero) = some (.agg #[]) := by kernel_rfl
theorem inf184 : ∃ i, Try.prog.info? 184 = some i ∧ i.zero = some (.agg #[]) ∧ i.size = 0 ∧ i.bytes = 0 := info_parts (by kernel_rfl : (Try.prog.info? 184).map (fun i => (i.zero, i.size, i.bytes)) = some (some (.agg #[]), 0, 0))
-- 185: struct { _ [0]*runtime.PanicNilError }
theorem ag185 : (Try.prog.underlying 185).map isAggD = some true := by kernel_rfl
theorem sz185 : (Try.prog.info? 185).map (·.size) = some 0 := by kernel_rfl
theorem ze185 : (Try.prog.info? 185).bind (·.zero) = some (.agg #[]) := by kernel_rfl
theorem inf185 : ∃ i, Try.prog.info? 185 = some i ∧ i.zero = some (.agg #[]) ∧ i.size = 0 ∧ i.bytes = 0 := info_parts (by kernel_rfl : (Try.prog.info? 185).map (fun i => (i.zero, i.size, i.bytes)) = some (some (.agg #[]), 0, 0))
-- 186: runtime.PanicNilError
theorem ag186 : (Try.prog.underlying 186).map isAggD = some true := by kernel_rfl
theorem sz186 : (Try.prog.info? 186).map (·.size) = some 0 := by kernel_rfl
theorem ze186 : (Try.prog.info? 186).bind (·.zero) = some (.agg #[]) := by kernel_rfl
theorem inf186 : ∃ i, Try.prog.info? 186 = some i ∧ i.zero = some (.agg #[]) ∧ i.size = 0 ∧ i.bytes = 0 := info_parts (by kernel_rfl : (Try.prog.info? 186).map (fun i => (i.zero, i.size, i.bytes)) = some (some (.agg #[]), 0, 0))
-- 187: abi.TFlag
theorem u187 : Try.prog.underlying 187 = some (.int .u8) := by kernel_rfl
theorem ag187 : (Try.prog.underlying 187).map isAggD = some false := by kernel_rfl
theorem sz187 : (Try.prog.info? 187).map (·.size) = some 1 := by kernel_rfl
theorem ze187 : (Try.prog.info? 187).bind (·.zero) = some (.int .u8 0) := by kernel_rfl
theorem inf187 : ∃ i, Try.prog.info? 187 = some i ∧ i.zero = some (.int .u8 0) ∧ i.size = 1 ∧ i.bytes = 1 := info_parts (by kernel_rfl : (Try.prog.info? 187).map (fun i => (i.zero, i.size, i.bytes)) = some (some (.int .u8 0), 1, 1))
-- 188: abi.Kind
theorem u188 : Try.prog.underlying 188 = some (.int .u8) := by kernel_rfl
theorem ag188 : (Try.prog.underlying 188).map isAggD = some false := by kernel_rfl
theorem sz188 : (Try.prog.info? 188).map (·.size) = some 1 := by kernel_rfl
theorem ze188 : (Try.prog.info? 188).bind (·.zero) = some (.int .u8 0) := by kernel_rfl
theorem inf188 : ∃ i, Try.prog.info? 188 = some i ∧ i.zero = some (.int .u8 0) ∧ i.size = 1 ∧ i.bytes = 1 := info_parts (by kernel_rfl : (Try.prog.info? 188).map (fun i => (i.zero, i.size, i.bytes)) = some (some (.int .u8 0), 1, 1))
-- 190: *uint8
theorem u190 : Try.prog.underlying 190 = some (.pointer 5) := by kernel_rfl
theorem ag190 : (Try.prog.underlying 190).map isAggD = some false := by kernel_rfl
theorem sz190 : (Try.prog.info? 190).map (·.size) = some 1 := by kernel_rfl
theorem ze190 : (Try.prog.info? 190).bind (·.zero) = some (.pointer none) := by kernel_rfl
theorem inf190 : ∃ i, Try.prog.info? 190 = some i ∧ i.zero = some (.pointer none) ∧ i.size = 1 ∧ i.bytes = 8 := info_parts (by kernel_rfl : (Try.prog.info? 190).map (fun i => (i.zero, i.size, i.bytes)) = some (some (.pointer none), 1, 8))
-- 191: abi.NameOff
theorem u191 : Try.prog.underlying 191 = some (.int .i32) := by kernel_rfl
theorem ag191 : (Try.prog.underlying 191).map isAggD = some false := by kernel_rfl
theorem sz191 : (Try.prog.info? 191).map (·.size) = some 1 := by kernel_rfl
theorem ze191 : (Try.prog.info? 191).bind (·.zero) = some (.int .i32 0) := by kernel_rfl
theorem inf191 : ∃ i, Try.prog.info? 191 = some i ∧ i.zero = some (.int .i32 0) ∧ i.size = 1 ∧ i.bytes = 4 := info_parts (by kernel_rfl : (Try.prog.info? 191).map (fun i => (i.zero, i.size, i.bytes)) = some (some (.int .i32 0), 1, 4))
-- 192: abi.TypeOff
theorem u192 : Try.prog.underlying 192 = some (.int .i32) := by kernel_rfl
theorem ag192 : (Try.prog.underlying 192).map isAggD = some false := by kernel_rfl
theorem sz192 : (Try.prog.info? 192).map (·.size) = some 1 := by kernel_rfl
theorem ze192 : (Try.prog.info? 192).bind (·.zero) = some (.int .i32 0) := by kernel_rfl
theorem inf192 : ∃ i, Try.prog.info? 192 = some i ∧ i.zero = some (.int .i32 0) ∧ i.size = 1 ∧ i.bytes = 4 := info_parts (by kernel_rfl : (Try.prog.info? 192).map (fun i => (i.zero, i.size, i.bytes)) = some (some (.int .i32 0), 1, 4))
-- 193: struct { Size_ uintptr; PtrBytes uintptr; Hash uint32; TFlag abi.TFlag; Align_ uint8; FieldAlign_ ui
theorem ag193 : (Try.prog.underlying 193).map isAggD = some true := by kernel_rfl
theorem sz193 : (Try.prog.info? 193).map (·.size) = some 11 := by kernel_rfl
theorem ze193 : (Try.prog.info? 193).bind (·.zero) = some (.agg #[.int .u64 0, .int .u64 0, .int .u32 0, .int .u8 0, .int .u8 0, .int .u8 0, .int .u8 0, .nilFunc, .pointer none, .int .i32 0, .int .i32 0]) := by kernel_rfl
theorem inf193 : ∃ i, Try.prog.info? 193 = some i ∧ i.zero = some (.agg #[.int .u64 0, .int .u64 0, .int .u32 0, .int .u8 0, .int .u8 0, .int .u8 0, .int .u8 0, .nilFunc, .pointer none, .int .i32 0, .int .i32 0]) ∧ i.size = 11 ∧ i.bytes = 48 := info_parts (by kernel_rfl : (Try.prog.info? 193).map (fun i => (i.zero, i.size, i.bytes)) = some (some (.agg #[.int .u64 0, .int .u64 0, .int .u32 0, .int .u8 0, .int .u8 0, .int .u8 0, .int .u8 0, .nilFunc, .pointer none, .int .i32 0, .int .i32 0]), 11, 48))
-- 194: abi.Type
theorem ag194 : (Try.prog.underlying 194).map isAggD = some true := by kernel_rfl
theorem sz194 : (Try.prog.info? 194).map (·.size) = some 11 := by kernel_rfl
theorem ze194 : (Try.prog.info? 194).bind (·.zero) = some (.agg #[.int .u64 0, .int .u64 0, .int .u32 0, .int .u8 0, .int .u8 0, .int .u8 0, .int .u8 0, .nilFunc, .pointer none, .int .i32 0, .int .i32 0]) := by kernel_rfl
theorem inf194 : ∃ i, Try.prog.info? 194 = some i ∧ i.zero = some (.agg #[.int .u64 0, .int .u64 0, .int .u32 0, .int .u8 0, .int .u8 0, .int .u8 0, .int .u8 0, .nilFunc, .pointer none, .int .i32 0, .int .i32 0]) ∧ i.size = 11 ∧ i.bytes = 48 := info_parts (by kernel_rfl : (Try.prog.info? 194).map (fun i => (i.zero, i.size, i.bytes)) = some (some (.agg #[.int .u64 0, .int .u64 0, .int .u32 0, .int .u8 0, .int .u8 0, .int .u8 0, .int .u8 0, .nilFunc, .pointer none, .int .i32 0, .int .i32 0]), 11, 48))

theorem rpeql101 {x y : Operand} {a : Addr} {w : World} : (sBin .eql 101 x y (.pointer (some a)) (.pointer none)).run Try.prog w = .ok (.value (.bool false)) w := by kernel_rfl
theorem rneql101 {x y : Operand} {w : World} : (sBin .eql 101 x y (.pointer none) (.pointer none)).run Try.prog w = .ok (.value (.bool true)) w := by kernel_rfl
theorem rpeql146 {x y : Operand} {a : Addr} {w : World} : (sBin .eql 146 x y (.pointer (some a)) (.pointer none)).run Try.prog w = .ok (.value (.bool false)) w := by kernel_rfl
theorem rneql146 {x y : Operand} {w : World} : (sBin .eql 146 x y (.pointer none) (.pointer none)).run Try.prog w = .ok (.value (.bool true)) w := by kernel_rfl
theorem rpeql23 {x y : Operand} {a : Addr} {w : World} : (sBin .eql 23 x y (.pointer (some a)) (.pointer none)).run Try.prog w = .ok (.value (.bool false)) w := by kernel_rfl
theorem rneql23 {x y : Operand} {w : World} : (sBin .eql 23 x y (.pointer none) (.pointer none)).run Try.prog w = .ok (.value (.bool true)) w := by kernel_rfl
theorem rpeql28 {x y : Operand} {a : Addr} {w : World} : (sBin .eql 28 x y (.pointer (some a)) (.pointer none)).run Try.prog w = .ok (.value (.bool false)) w := by kernel_rfl
theorem rneql28 {x y : Operand} {w : World} : (sBin .eql 28 x y (.pointer none) (.pointer none)).run Try.prog w = .ok (.value (.bool true)) w := by kernel_rfl
theorem rpeql81 {x y : Operand} {a : Addr} {w : World} : (sBin .eql 81 x y (.pointer (some a)) (.pointer none)).run Try.prog w = .ok (.value (.bool false)) w := by kernel_rfl
theorem rneql81 {x y : Operand} {w : World} : (sBin .eql 81 x y (.pointer none) (.pointer none)).run Try.prog w = .ok (.value (.bool true)) w := by kernel_rfl
theorem rpneq23 {x y : Operand} {a : Addr} {w : World} : (sBin .neq 23 x y (.pointer (some a)) (.pointer none)).run Try.prog w = .ok (.value (.bool true)) w := by kernel_rfl
theorem rnneq23 {x y : Operand} {w : World} : (sBin .neq 23 x y (.pointer none) (.pointer none)).run Try.prog w = .ok (.value (.bool false)) w := by kernel_rfl
theorem rpneq28 {x y : Operand} {a : Addr} {w : World} : (sBin .neq 28 x y (.pointer (some a)) (.pointer none)).run Try.prog w = .ok (.value (.bool true)) w := by kernel_rfl
theorem rnneq28 {x y : Operand} {w : World} : (sBin .neq 28 x y (.pointer none) (.pointer none)).run Try.prog w = .ok (.value (.bool false)) w := by kernel_rfl
theorem rpneq81 {x y : Operand} {a : Addr} {w : World} : (sBin .neq 81 x y (.pointer (some a)) (.pointer none)).run Try.prog w = .ok (.value (.bool true)) w := by kernel_rfl
theorem rnneq81 {x y : Operand} {w : World} : (sBin .neq 81 x y (.pointer none) (.pointer none)).run Try.prog w = .ok (.value (.bool false)) w := by kernel_rfl
theorem rfa111_0 {a : Addr} {w : World} : (sFieldAddr 111 (.pointer (some a)) 0).run Try.prog w = .ok (.value (.pointer (some (a)))) w := by kernel_rfl
theorem rfa111_1 {a : Addr} {w : World} : (sFieldAddr 111 (.pointer (some a)) 1).run Try.prog w = .ok (.value (.pointer (some (a.add 1)))) w := by kernel_rfl
theorem rfa127_0 {a : Addr} {w : World} : (sFieldAddr 127 (.pointer (some a)) 0).run Try.prog w = .ok (.value (.pointer (some (a)))) w := by kernel_rfl
theorem rfa129_0 {a : Addr} {w : World} : (sFieldAddr 129 (.pointer (some a)) 0).run Try.prog w = .ok (.value (.pointer (some (a)))) w := by kernel_rfl
theorem rfa136_0 {a : Addr} {w : World} : (sFieldAddr 136 (.pointer (some a)) 0).run Try.prog w = .ok (.value (.pointer (some (a)))) w := by kernel_rfl
theorem rfa136_1 {a : Addr} {w : World} : (sFieldAddr 136 (.pointer (some a)) 1).run Try.prog w = .ok (.value (.pointer (some (a.add 1)))) w := by kernel_rfl
theorem rfa136_2 {a : Addr} {w : World} : (sFieldAddr 136 (.pointer (some a)) 2).run Try.prog w = .ok (.value (.pointer (some (a.add 2)))) w := by kernel_rfl
theorem rfa138_0 {a : Addr} {w : World} : (sFieldAddr 138 (.pointer (some a)) 0).run Try.prog w = .ok (.value (.pointer (some (a)))) w := by kernel_rfl
theorem rfa138_1 {a : Addr} {w : World} : (sFieldAddr 138 (.pointer (some a)) 1).run Try.prog w = .ok (.value (.pointer (some (a.add 1)))) w := by kernel_rfl
theorem rfa155_0 {a : Addr} {w : World} : (sFieldAddr 155 (.pointer (some a)) 0).run Try.prog w = .ok (.value (.pointer (some (a)))) w := by kernel_rfl
theorem rfa155_1 {a : Addr} {w : World} : (sFieldAddr 155 (.pointer (some a)) 1).run Try.prog w = .ok (.value (.pointer (some (a.add 1)))) w := by kernel_rfl
theorem rfa155_2 {a : Addr} {w : World} : (sFieldAddr 155 (.pointer (some a)) 2).run Try.prog w = .ok (.value (.pointer (some (a.add 2)))) w := by kernel_rfl
theorem rfa163_0 {a : Addr} {w : World} : (sFieldAddr 163 (.pointer (some a)) 0).run Try.prog w = .ok (.value (.pointer (some (a)))) w := by kernel_rfl
theorem rfa163_1 {a : Addr} {w : World} : (sFieldAddr 163 (.pointer (some a)) 1).run Try.prog w = .ok (.value (.pointer (some (a.add 1)))) w := by kernel_rfl
theorem rfa166_0 {a : Addr} {w : World} : (sFieldAddr 166 (.pointer (some a)) 0).run Try.prog w = .ok (.value (.pointer (some (a)))) w := by kernel_rfl
theorem rfa37_0 {a : Addr} {w : World} : (sFieldAddr 37 (.pointer (some a)) 0).run Try.prog w = .ok (.value (.pointer (some (a)))) w := by kernel_rfl
theorem rfa37_1 {a : Addr} {w : World} : (sFieldAddr 37 (.pointer (some a)) 1).run Try.prog w = .ok (.value (.pointer (some (a.add 1)))) w := by kernel_rfl
theorem rfa37_2 {a : Addr} {w : World} : (sFieldAddr 37 (.pointer (some a)) 2).run Try.prog w = .ok (.value (.pointer (some (a.add 2)))) w := by kernel_rfl
theorem rfa37_3 {a : Addr} {w : World} : (sFieldAddr 37 (.pointer (some a)) 3).run Try.prog w = .ok (.value (.pointer (some (a.add 3)))) w := by kernel_rfl
theorem rfa41_0 {a : Addr} {w : World} : (sFieldAddr 41 (.pointer (some a)) 0).run Try.prog w = .ok (.value (.pointer (some (a)))) w := by kernel_rfl
theorem rfa41_1 {a : Addr} {w : World} : (sFieldAddr 41 (.pointer (some a)) 1).run Try.prog w = .ok (.value (.pointer (some (a.add 1)))) w := by kernel_rfl
theorem rfa41_2 {a : Addr} {w : World} : (sFieldAddr 41 (.pointer (some a)) 2).run Try.prog w = .ok (.value (.pointer (some (a.add 2)))) w := by kernel_rfl
theorem rfa41_3 {a : Addr} {w : World} : (sFieldAddr 41 (.pointer (some a)) 3).run Try.prog w = .ok (.value (.pointer (some (a.add 3)))) w := by kernel_rfl
theorem rfa41_4 {a : Addr} {w : World} : (sFieldAddr 41 (.pointer (some a)) 4).run Try.prog w = .ok (.value (.pointer (some (a.add 4)))) w := by kernel_rfl
theorem rfa41_5 {a : Addr} {w : World} : (sFieldAddr 41 (.pointer (some a)) 5).run Try.prog w = .ok (.value (.pointer (some (a.add 5)))) w := by kernel_rfl
theorem rfa41_6 {a : Addr} {w : World} : (sFieldAddr 41 (.pointer (some a)) 6).run Try.prog w = .ok (.value (.pointer (some (a.add 6)))) w := by kernel_rfl
theorem rfa41_7 {a : Addr} {w : World} : (sFieldAddr 41 (.pointer (some a)) 7).run Try.prog w = .ok (.value (.pointer (some (a.add 10)))) w := by kernel_rfl
theorem rfa41_8 {a : Addr} {w : World} : (sFieldAddr 41 (.pointer (some a)) 8).run Try.prog w = .ok (.value (.pointer (some (a.add 11)))) w := by kernel_rfl
theorem rfa43_0 {a : Addr} {w : World} : (sFieldAddr 43 (.pointer (some a)) 0).run Try.prog w = .ok (.value (.pointer (some (a)))) w := by kernel_rfl
theorem rfa43_1 {a : Addr} {w : World} : (sFieldAddr 43 (.pointer (some a)) 1).run Try.prog w = .ok (.value (.pointer (some (a.add 1)))) w := by kernel_rfl
theorem rfa43_3 {a : Addr} {w : World} : (sFieldAddr 43 (.pointer (some a)) 3).run Try.prog w = .ok (.value (.pointer (some (a.add 3)))) w := by kernel_rfl
theorem rfa53_0 {a : Addr} {w : World} : (sFieldAddr 53 (.pointer (some a)) 0).run Try.prog w = .ok (.value (.pointer (some (a)))) w := by kernel_rfl
theorem rfa56_0 {a : Addr} {w : World} : (sFieldAddr 56 (.pointer (some a)) 0).run Try.prog w = .ok (.value (.pointer (some (a)))) w := by kernel_rfl
theorem rfa56_1 {a : Addr} {w : World} : (sFieldAddr 56 (.pointer (some a)) 1).run Try.prog w = .ok (.value (.pointer (some (a.add 1)))) w := by kernel_rfl
theorem rfa64_1 {a : Addr} {w : World} : (sFieldAddr 64 (.pointer (some a)) 1).run Try.prog w = .ok (.value (.pointer (some (a.add 1)))) w := by kernel_rfl
theorem rfa64_5 {a : Addr} {w : World} : (sFieldAddr 64 (.pointer (some a)) 5).run Try.prog w = .ok (.value (.pointer (some (a.add 5)))) w := by kernel_rfl
theorem rfa84_0 {a : Addr} {w : World} : (sFieldAddr 84 (.pointer (some a)) 0).run Try.prog w = .ok (.value (.pointer (some (a)))) w := by kernel_rfl
theorem rfa84_1 {a : Addr} {w : World} : (sFieldAddr 84 (.pointer (some a)) 1).run Try.prog w = .ok (.value (.pointer (some (a.add 1)))) w := by kernel_rfl
theorem rfa91_0 {a : Addr} {w : World} : (sFieldAddr 91 (.pointer (some a)) 0).run Try.prog w = .ok (.value (.pointer (some (a)))) w := by kernel_rfl
theorem rfa91_1 {a : Addr} {w : World} : (sFieldAddr 91 (.pointer (some a)) 1).run Try.prog w = .ok (.value (.pointer (some (a.add 1)))) w := by kernel_rfl
theorem rfa91_2 {a : Addr} {w : World} : (sFieldAddr 91 (.pointer (some a)) 2).run Try.prog w = .ok (.value (.pointer (some (a.add 2)))) w := by kernel_rfl
theorem rfa91_3 {a : Addr} {w : World} : (sFieldAddr 91 (.pointer (some a)) 3).run Try.prog w = .ok (.value (.pointer (some (a.add 3)))) w := by kernel_rfl
theorem rfa91_4 {a : Addr} {w : World} : (sFieldAddr 91 (.pointer (some a)) 4).run Try.prog w = .ok (.value (.pointer (some (a.add 4)))) w := by kernel_rfl
theorem rfa91_5 {a : Addr} {w : World} : (sFieldAddr 91 (.pointer (some a)) 5).run Try.prog w = .ok (.value (.pointer (some (a.add 5)))) w := by kernel_rfl
theorem rfa91_6 {a : Addr} {w : World} : (sFieldAddr 91 (.pointer (some a)) 6).run Try.prog w = .ok (.value (.pointer (some (a.add 6)))) w := by kernel_rfl
theorem rfa91_7 {a : Addr} {w : World} : (sFieldAddr 91 (.pointer (some a)) 7).run Try.prog w = .ok (.value (.pointer (some (a.add 7)))) w := by kernel_rfl
theorem rfa91_8 {a : Addr} {w : World} : (sFieldAddr 91 (.pointer (some a)) 8).run Try.prog w = .ok (.value (.pointer (some (a.add 8)))) w := by kernel_rfl
theorem rfa95_0 {a : Addr} {w : World} : (sFieldAddr 95 (.pointer (some a)) 0).run Try.prog w = .ok (.value (.pointer (some (a)))) w := by kernel_rfl
theorem rfa95_1 {a : Addr} {w : World} : (sFieldAddr 95 (.pointer (some a)) 1).run Try.prog w = .ok (.value (.pointer (some (a.add 12)))) w := by kernel_rfl
theorem rxa172 {a : Addr} {i : Nat} {w : World} (h : i < 16) : (sIndexAddr 172 (.pointer (some a)) (.int .i64 (i : Nat))).run Try.prog w = .ok (.value (.pointer (some (a.add (i))))) w := by
  have := run_idxA (P := Try.prog) (w := w) (a := a) (q := .i64) (i := (i : Nat)) u172 sz104 (by omega) (show ((i : Nat) : Int) < (16 : Nat) by omega)
  rw [show ((i : Nat) : Int).toNat * 1 = i by omega] at this
  exact this
theorem rix22 {a : Addr} {n c i : Nat} {w : World} (h : i < n) : (sIndexAddr 22 (.slice (some a) n c) (.int .i64 (i : Nat))).run Try.prog w = .ok (.value (.pointer (some (a.add (i * 15))))) w := by
  have := run_idxS (P := Try.prog) (w := w) (a := a) (c := c) (q := .i64) (i := (i : Nat)) u22 sz43 (by omega) (show ((i : Nat) : Int) < n by omega)
  rw [show ((i : Nat) : Int).toNat * 15 = i * 15 by omega] at this
  exact this
theorem rix31 {a : Addr} {n c i : Nat} {w : World} (h : i < n) : (sIndexAddr 31 (.slice (some a) n c) (.int .i64 (i : Nat))).run Try.prog w = .ok (.value (.pointer (some (a.add (i * 12))))) w := by
  have := run_idxS (P := Try.prog) (w := w) (a := a) (c := c) (q := .i64) (i := (i : Nat)) u31 sz41 (by omega) (show ((i : Nat) : Int) < n by omega)
  rw [show ((i : Nat) : Int).toNat * 12 = i * 12 by omega] at this
  exact this
theorem rix38 {a : Addr} {n c i : Nat} {w : World} (h : i < n) : (sIndexAddr 38 (.slice (some a) n c) (.int .i64 (i : Nat))).run Try.prog w = .ok (.value (.pointer (some (a.add (i * 3))))) w := by
  have := run_idxS (P := Try.prog) (w := w) (a := a) (c := c) (q := .i64) (i := (i : Nat)) u38 sz136 (by omega) (show ((i : Nat) : Int) < n by omega)
  rw [show ((i : Nat) : Int).toNat * 3 = i * 3 by omega] at this
  exact this
theorem rix39 {a : Addr} {n c i : Nat} {w : World} (h : i < n) : (sIndexAddr 39 (.slice (some a) n c) (.int .i64 (i : Nat))).run Try.prog w = .ok (.value (.pointer (some (a.add (i * 2))))) w := by
  have := run_idxS (P := Try.prog) (w := w) (a := a) (c := c) (q := .i64) (i := (i : Nat)) u39 sz138 (by omega) (show ((i : Nat) : Int) < n by omega)
  rw [show ((i : Nat) : Int).toNat * 2 = i * 2 by omega] at this
  exact this
theorem rix51 {a : Addr} {n c i : Nat} {w : World} (h : i < n) : (sIndexAddr 51 (.slice (some a) n c) (.int .i64 (i : Nat))).run Try.prog w = .ok (.value (.pointer (some (a.add (i))))) w := by
  have := run_idxS (P := Try.prog) (w := w) (a := a) (c := c) (q := .i64) (i := (i : Nat)) u51 sz5 (by omega) (show ((i : Nat) : Int) < n by omega)
  rw [show ((i : Nat) : Int).toNat * 1 = i by omega] at this
  exact this
theorem rxa54 {a : Addr} {i : Nat} {w : World} (h : i < 8) : (sIndexAddr 54 (.pointer (some a)) (.int .i64 (i : Nat))).run Try.prog w = .ok (.value (.pointer (some (a.add (i * 3))))) w := by
  have := run_idxA (P := Try.prog) (w := w) (a := a) (q := .i64) (i := (i : Nat)) u54 sz53 (by omega) (show ((i : Nat) : Int) < (8 : Nat) by omega)
  rw [show ((i : Nat) : Int).toNat * 3 = i * 3 by omega] at this
  exact this
theorem rxa82 {a : Addr} {i : Nat} {w : World} (h : i < 8) : (sIndexAddr 82 (.pointer (some a)) (.int .i64 (i : Nat))).run Try.prog w = .ok (.value (.pointer (some (a.add (i))))) w := by
  have := run_idxA (P := Try.prog) (w := w) (a := a) (q := .i64) (i := (i : Nat)) u82 sz81 (by omega) (show ((i : Nat) : Int) < (8 : Nat) by omega)
  rw [show ((i : Nat) : Int).toNat * 1 = i by omega] at this
  exact this
theorem rix87 {a : Addr} {n c i : Nat} {w : World} (h : i < n) : (sIndexAddr 87 (.slice (some a) n c) (.int .i64 (i : Nat))).run Try.prog w = .ok (.value (.pointer (some (a.add (i * 13))))) w := by
  have := run_idxS (P := Try.prog) (w := w) (a := a) (c := c) (q := .i64) (i := (i : Nat)) u87 sz95 (by omega) (show ((i : Nat) : Int) < n by omega)
  rw [show ((i : Nat) : Int).toNat * 13 = i * 13 by omega] at this
  exact this
theorem rix93 {a : Addr} {n c i : Nat} {w : World} (h : i < n) : (sIndexAddr 93 (.slice (some a) n c) (.int .i64 (i : Nat))).run Try.prog w = .ok (.value (.pointer (some (a.add (i))))) w := by
  have := run_idxS (P := Try.prog) (w := w) (a := a) (c := c) (q := .i64) (i := (i : Nat)) u93 sz99 (by omega) (show ((i : Nat) : Int) < n by omega)
  rw [show ((i : Nat) : Int).toNat * 1 = i by omega] at this
  exact this
theorem ld104 {a : Addr} {v : Value} {w : World} {K : Value → World → Prop} (h : w.cell? a = some v) : (std Try.prog).step (sLoad 104 (.pointer (some a))) w K = K v w := step_run (run_sLoad (run_loadVar1 ag104 h))
theorem sld104 {a : Addr} {v : Value} {S : World → Prop} {k : Value → Prop} (hne : ∃ w, S w) (h : ∀ w, S w → w.cell? a = some v) : (std Try.prog).stepS S (sLoad 104 (.pointer (some a))) k = k v := stepS_run hne fun w hw => run_sLoad (run_loadVar1 ag104 (h w hw))
theorem ld134 {a : Addr} {v : Value} {w : World} {K : Value → World → Prop} (h : w.cell? a = some v) : (std Try.prog).step (sLoad 134 (.pointer (some a))) w K = K v w := step_run (run_sLoad (run_loadVar1 ag134 h))
theorem sld134 {a : Addr} {v : Value} {S : World → Prop} {k : Value → Prop} (hne : ∃ w, S w) (h : ∀ w, S w → w.cell? a = some v) : (std Try.prog).stepS S (sLoad 134 (.pointer (some a))) k = k v := stepS_run hne fun w hw => run_sLoad (run_loadVar1 ag134 (h w hw))
theorem ld23 {a : Addr} {v : Value} {w : World} {K : Value → World → Prop} (h : w.cell? a = some v) : (std Try.prog).step (sLoad 23 (.pointer (some a))) w K = K v w := step_run (run_sLoad (run_loadVar1 ag23 h))
theorem sld23 {a : Addr} {v : Value} {S : World → Prop} {k : Value → Prop} (hne : ∃ w, S w) (h : ∀ w, S w → w.cell? a = some v) : (std Try.prog).stepS S (sLoad 23 (.pointer (some a))) k = k v := stepS_run hne fun w hw => run_sLoad (run_loadVar1 ag23 (h w hw))
theorem ld24 {a : Addr} {v : Value} {w : World} {K : Value → World → Prop} (h : w.cell? a = some v) : (std Try.prog).step (sLoad 24 (.pointer (some a))) w K = K v w := step_run (run_sLoad (run_loadVar1 ag24 h))
theorem sld24 {a : Addr} {v : Value} {S : World → Prop} {k : Value → Prop} (hne : ∃ w, S w) (h : ∀ w, S w → w.cell? a = some v) : (std Try.prog).stepS S (sLoad 24 (.pointer (some a))) k = k v := stepS_run hne fun w hw => run_sLoad (run_loadVar1 ag24 (h w hw))
theorem ld28 {a : Addr} {v : Value} {w : World} {K : Value → World → Prop} (h : w.cell? a = some v) : (std Try.prog).step (sLoad 28 (.pointer (some a))) w K = K v w := step_run (run_sLoad (run_loadVar1 ag28 h))
theorem sld28 {a : Addr} {v : Value} {S : World → Prop} {k : Value → Prop} (hne : ∃ w, S w) (h : ∀ w, S w → w.cell? a = some v) : (std Try.prog).stepS S (sLoad 28 (.pointer (some a))) k = k v := stepS_run hne fun w hw => run_sLoad (run_loadVar1 ag28 (h w hw))
theorem ld3 {a : Addr} {v : Value} {w : World} {K : Value → World → Prop} (h : w.cell? a = some v) : (std Try.prog).step (sLoad 3 (.pointer (some a))) w K = K v w := step_run (run_sLoad (run_loadVar1 ag3 h))
theorem sld3 {a : Addr} {v : Value} {S : World → Prop} {k : Value → Prop} (hne : ∃ w, S w) (h : ∀ w, S w → w.cell? a = some v) : (std Try.prog).stepS S (sLoad 3 (.pointer (some a))) k = k v := stepS_run hne fun w hw => run_sLoad (run_loadVar1 ag3 (h w hw))
theorem ld31 {a : Addr} {v : Value} {w : World} {K : Value → World → Prop} (h : w.cell? a = some v) : (std Try.prog).step (sLoad 31 (.pointer (some a))) w K = K v w := step_run (run_sLoad (run_loadVar1 ag31 h))
theorem sld31 {a : Addr} {v : Value} {S : World → Prop} {k : Value → Prop} (hne : ∃ w, S w) (h : ∀ w, S w → w.cell? a = some v) : (std Try.prog).stepS S (sLoad 31 (.pointer (some a))) k = k v := stepS_run hne fun w hw => run_sLoad (run_loadVar1 ag31 (h w hw))
theorem ld33 {a : Addr} {v : Value} {w : World} {K : Value → World → Prop} (h : w.cell? a = some v) : (std Try.prog).step (sLoad 33 (.pointer (some a))) w K = K v w := step_run (run_sLoad (run_loadVar1 ag33 h))
theorem sld33 {a : Addr} {v : Value} {S : World → Prop} {k : Value → Prop} (hne : ∃ w, S w) (h : ∀ w, S w → w.cell? a = some v) : (std Try.prog).stepS S (sLoad 33 (.pointer (some a))) k = k v := stepS_run hne fun w hw => run_sLoad (run_loadVar1 ag33 (h w hw))
theorem ld34 {a : Addr} {v : Value} {w : World} {K : Value → World → Prop} (h : w.cell? a = some v) : (std Try.prog).step (sLoad 34 (.pointer (some a))) w K = K v w := step_run (run_sLoad (run_loadVar1 ag34 h))
theorem sld34 {a : Addr} {v : Value} {S : World → Prop} {k : Value → Prop} (hne : ∃ w, S w) (h : ∀ w, S w → w.cell? a = some v) : (std Try.prog).stepS S (sLoad 34 (.pointer (some a))) k = k v := stepS_run hne fun w hw => run_sLoad (run_loadVar1 ag34 (h w hw))
theorem ld35 {a : Addr} {v : Value} {w : World} {K : Value → World → Prop} (h : w.cell? a = some v) : (std Try.prog).step (sLoad 35 (.pointer (some a))) w K = K v w := step_run (run_sLoad (run_loadVar1 ag35 h))
theorem sld35 {a : Addr} {v : Value} {S : World → Prop} {k : Value → Prop} (hne : ∃ w, S w) (h : ∀ w, S w → w.cell? a = some v) : (std Try.prog).stepS S (sLoad 35 (.pointer (some a))) k = k v := stepS_run hne fun w hw => run_sLoad (run_loadVar1 ag35 (h w hw))
theorem ld38 {a : Addr} {v : Value} {w : World} {K : Value → World → Prop} (h : w.cell? a = some v) : (std Try.prog).step (sLoad 38 (.pointer (some a))) w K = K v w := step_run (run_sLoad (run_loadVar1 ag38 h))
theorem sld38 {a : Addr} {v : Value} {S : World → Prop} {k : Value → Prop} (hne : ∃ w, S w) (h : ∀ w, S w → w.cell? a = some v) : (std Try.prog).stepS S (sLoad 38 (.pointer (some a))) k = k v := stepS_run hne fun w hw => run_sLoad (run_loadVar1 ag38 (h w hw))
theorem ld39 {a : Addr} {v : Value} {w : World} {K : Value → World → Prop} (h : w.cell? a = some v) : (std Try.prog).step (sLoad 39 (.pointer (some a))) w K = K v w := step_run (run_sLoad (run_loadVar1 ag39 h))
theorem sld39 {a : Addr} {v : Value} {S : World → Prop} {k : Value → Prop} (hne : ∃ w, S w) (h : ∀ w, S w → w.cell? a = some v) : (std Try.prog).stepS S (sLoad 39 (.pointer (some a))) k = k v := stepS_run hne fun w hw => run_sLoad (run_loadVar1 ag39 (h w hw))
theorem ld4 {a : Addr} {v : Value} {w : World} {K : Value → World → Prop} (h : w.cell? a = some v) : (std Try.prog).step (sLoad 4 (.pointer (some a))) w K = K v w := step_run (run_sLoad (run_loadVar1 ag4 h))
theorem sld4 {a : Addr} {v : Value} {S : World → Prop} {k : Value → Prop} (hne : ∃ w, S w) (h : ∀ w, S w → w.cell? a = some v) : (std Try.prog).stepS S (sLoad 4 (.pointer (some a))) k = k v := stepS_run hne fun w hw => run_sLoad (run_loadVar1 ag4 (h w hw))
theorem ld5 {a : Addr} {v : Value} {w : World} {K : Value → World → Prop} (h : w.cell? a = some v) : (std Try.prog).step (sLoad 5 (.pointer (some a))) w K = K v w := step_run (run_sLoad (run_loadVar1 ag5 h))
theorem sld5 {a : Addr} {v : Value} {S : World → Prop} {k : Value → Prop} (hne : ∃ w, S w) (h : ∀ w, S w → w.cell? a = some v) : (std Try.prog).stepS S (sLoad 5 (.pointer (some a))) k = k v := stepS_run hne fun w hw => run_sLoad (run_loadVar1 ag5 (h w hw))
theorem ld51 {a : Addr} {v : Value} {w : World} {K : Value → World → Prop} (h : w.cell? a = some v) : (std Try.prog).step (sLoad 51 (.pointer (some a))) w K = K v w := step_run (run_sLoad (run_loadVar1 ag51 h))
theorem sld51 {a : Addr} {v : Value} {S : World → Prop} {k : Value → Prop} (hne : ∃ w, S w) (h : ∀ w, S w → w.cell? a = some v) : (std Try.prog).stepS S (sLoad 51 (.pointer (some a))) k = k v := stepS_run hne fun w hw => run_sLoad (run_loadVar1 ag51 (h w hw))
theorem ld81 {a : Addr} {v : Value} {w : World} {K : Value → World → Prop} (h : w.cell? a = some v) : (std Try.prog).step (sLoad 81 (.pointer (some a))) w K = K v w := step_run (run_sLoad (run_loadVar1 ag81 h))
theorem sld81 {a : Addr} {v : Value} {S : World → Prop} {k : Value → Prop} (hne : ∃ w, S w) (h : ∀ w, S w → w.cell? a = some v) : (std Try.prog).stepS S (sLoad 81 (.pointer (some a))) k = k v := stepS_run hne fun w hw => run_sLoad (run_loadVar1 ag81 (h w hw))
theorem ld87 {a : Addr} {v : Value} {w : World} {K : Value → World → Prop} (h : w.cell? a = some v) : (std Try.prog).step (sLoad 87 (.pointer (some a))) w K = K v w := step_run (run_sLoad (run_loadVar1 ag87 h))
theorem sld87 {a : Addr} {v : Value} {S : World → Prop} {k : Value → Prop} (hne : ∃ w, S w) (h : ∀ w, S w → w.cell? a = some v) : (std Try.prog).stepS S (sLoad 87 (.pointer (some a))) k = k v := stepS_run hne fun w hw => run_sLoad (run_loadVar1 ag87 (h w hw))
theorem ld9 {a : Addr} {v : Value} {w : World} {K : Value → World → Prop} (h : w.cell? a = some v) : (std Try.prog).step (sLoad 9 (.pointer (some a))) w K = K v w := step_run (run_sLoad (run_loadVar1 ag9 h))
theorem sld9 {a : Addr} {v : Value} {S : World → Prop} {k : Value → Prop} (hne : ∃ w, S w) (h : ∀ w, S w → w.cell? a = some v) : (std Try.prog).stepS S (sLoad 9 (.pointer (some a))) k = k v := stepS_run hne fun w hw => run_sLoad (run_loadVar1 ag9 (h w hw))
theorem ld99 {a : Addr} {v : Value} {w : World} {K : Value → World → Prop} (h : w.cell? a = some v) : (std Try.prog).step (sLoad 99 (.pointer (some a))) w K = K v w := step_run (run_sLoad (run_loadVar1 ag99 h))
theorem sld99 {a : Addr} {v : Value} {S : World → Prop} {k : Value → Prop} (hne : ∃ w, S w) (h : ∀ w, S w → w.cell? a = some v) : (std Try.prog).stepS S (sLoad 99 (.pointer (some a))) k = k v := stepS_run hne fun w hw => run_sLoad (run_loadVar1 ag99 (h w hw))
theorem px_add {t : TypeId} {x y : Operand} {q : IntKind} {a b : Int}  {w : World} {K : Value → World → Prop} : (std Try.prog).step (sBin .add t x y (.int q a) (.int q b)) w K = K (.int q (q.wrap (a + b))) w := step_run (r_add)
theorem sx_add {t : TypeId} {x y : Operand} {q : IntKind} {a b : Int}  {S : World → Prop} {k : Value → Prop} (hne : ∃ w, S w) : (std Try.prog).stepS S (sBin .add t x y (.int q a) (.int q b)) k = k (.int q (q.wrap (a + b))) := stepS_run hne fun _ _ => r_add
theorem px_sub {t : TypeId} {x y : Operand} {q : IntKind} {a b : Int}  {w : World} {K : Value → World → Prop} : (std Try.prog).step (sBin .sub t x y (.int q a) (.int q b)) w K = K (.int q (q.wrap (a - b))) w := step_run (r_sub)
theorem sx_sub {t : TypeId} {x y : Operand} {q : IntKind} {a b : Int}  {S : World → Prop} {k : Value → Prop} (hne : ∃ w, S w) : (std Try.prog).stepS S (sBin .sub t x y (.int q a) (.int q b)) k = k (.int q (q.wrap (a - b))) := stepS_run hne fun _ _ => r_sub
theorem px_mul {t : TypeId} {x y : Operand} {q : IntKind} {a b : Int}  {w : World} {K : Value → World → Prop} : (std Try.prog).step (sBin .mul t x y (.int q a) (.int q b)) w K = K (.int q (q.wrap (a * b))) w := step_run (r_mul)
theorem sx_mul {t : TypeId} {x y : Operand} {q : IntKind} {a b : Int}  {S : World → Prop} {k : Value → Prop} (hne : ∃ w, S w) : (std Try.prog).stepS S (sBin .mul t x y (.int q a) (.int q b)) k = k (.int q (q.wrap (a * b))) := stepS_run hne fun _ _ => r_mul
theorem px_and {t : TypeId} {x y : Operand} {q : IntKind} {a b : Int}  {w : World} {K : Value → World → Prop} : (std Try.prog).step (sBin .and t x y (.int q a) (.int q b)) w K = K (.int q (bitOp .and q a b)) w := step_run (r_and)
theorem sx_and {t : TypeId} {x y : Operand} {q : IntKind} {a b : Int}  {S : World → Prop} {k : Value → Prop} (hne : ∃ w, S w) : (std Try.prog).stepS S (sBin .and t x y (.int q a) (.int q b)) k = k (.int q (bitOp .and q a b)) := stepS_run hne fun _ _ => r_and
theorem px_or {t : TypeId} {x y : Operand} {q : IntKind} {a b : Int}  {w : World} {K : Value → World → Prop} : (std Try.prog).step (sBin .or t x y (.int q a) (.int q b)) w K = K (.int q (bitOp .or q a b)) w := step_run (r_or)
theorem sx_or {t : TypeId} {x y : Operand} {q : IntKind} {a b : Int}  {S : World → Prop} {k : Value → Prop} (hne : ∃ w, S w) : (std Try.prog).stepS S (sBin .or t x y (.int q a) (.int q b)) k = k (.int q (bitOp .or q a b)) := stepS_run hne fun _ _ => r_or
theorem px_xor {t : TypeId} {x y : Operand} {q : IntKind} {a b : Int}  {w : World} {K : Value → World → Prop} : (std Try.prog).step (sBin .xor t x y (.int q a) (.int q b)) w K = K (.int q (bitOp .xor q a b)) w := step_run (r_xor)
theorem sx_xor {t : TypeId} {x y : Operand} {q : IntKind} {a b : Int}  {S : World → Prop} {k : Value → Prop} (hne : ∃ w, S w) : (std Try.prog).stepS S (sBin .xor t x y (.int q a) (.int q b)) k = k (.int q (bitOp .xor q a b)) := stepS_run hne fun _ _ => r_xor
theorem px_lss {t : TypeId} {x y : Operand} {q : IntKind} {a b : Int}  {w : World} {K : Value → World → Prop} : (std Try.prog).step (sBin .lss t x y (.int q a) (.int q b)) w K = K (.bool (decide (a < b))) w := step_run (r_lss)
theorem sx_lss {t : TypeId} {x y : Operand} {q : IntKind} {a b : Int}  {S : World → Prop} {k : Value → Prop} (hne : ∃ w, S w) : (std Try.prog).stepS S (sBin .lss t x y (.int q a) (.int q b)) k = k (.bool (decide (a < b))) := stepS_run hne fun _ _ => r_lss
theorem px_leq {t : TypeId} {x y : Operand} {q : IntKind} {a b : Int}  {w : World} {K : Value → World → Prop} : (std Try.prog).step (sBin .leq t x y (.int q a) (.int q b)) w K = K (.bool (decide (a ≤ b))) w := step_run (r_leq)
theorem sx_leq {t : TypeId} {x y : Operand} {q : IntKind} {a b : Int}  {S : World → Prop} {k : Value → Prop} (hne : ∃ w, S w) : (std Try.prog).stepS S (sBin .leq t x y (.int q a) (.int q b)) k = k (.bool (decide (a ≤ b))) := stepS_run hne fun _ _ => r_leq
theorem px_gtr {t : TypeId} {x y : Operand} {q : IntKind} {a b : Int}  {w : World} {K : Value → World → Prop} : (std Try.prog).step (sBin .gtr t x y (.int q a) (.int q b)) w K = K (.bool (decide (b < a))) w := step_run (r_gtr)
theorem sx_gtr {t : TypeId} {x y : Operand} {q : IntKind} {a b : Int}  {S : World → Prop} {k : Value → Prop} (hne : ∃ w, S w) : (std Try.prog).stepS S (sBin .gtr t x y (.int q a) (.int q b)) k = k (.bool (decide (b < a))) := stepS_run hne fun _ _ => r_gtr
theorem px_geq {t : TypeId} {x y : Operand} {q : IntKind} {a b : Int}  {w : World} {K : Value → World → Prop} : (std Try.prog).step (sBin .geq t x y (.int q a) (.int q b)) w K = K (.bool (decide (b ≤ a))) w := step_run (r_geq)
theorem sx_geq {t : TypeId} {x y : Operand} {q : IntKind} {a b : Int}  {S : World → Prop} {k : Value → Prop} (hne : ∃ w, S w) : (std Try.prog).stepS S (sBin .geq t x y (.int q a) (.int q b)) k = k (.bool (decide (b ≤ a))) := stepS_run hne fun _ _ => r_geq
theorem px_eql {t : TypeId} {x y : Operand} {q : IntKind} {a b : Int}  {w : World} {K : Value → World → Prop} : (std Try.prog).step (sBin .eql t x y (.int q a) (.int q b)) w K = K (.bool (decide (a = b))) w := step_run (r_eql)
theorem sx_eql {t : TypeId} {x y : Operand} {q : IntKind} {a b : Int}  {S : World → Prop} {k : Value → Prop} (hne : ∃ w, S w) : (std Try.prog).stepS S (sBin .eql t x y (.int q a) (.int q b)) k = k (.bool (decide (a = b))) := stepS_run hne fun _ _ => r_eql
theorem px_neq {t : TypeId} {x y : Operand} {q : IntKind} {a b : Int}  {w : World} {K : Value → World → Prop} : (std Try.prog).step (sBin .neq t x y (.int q a) (.int q b)) w K = K (.bool (decide (a ≠ b))) w := step_run (r_neq)
theorem sx_neq {t : TypeId} {x y : Operand} {q : IntKind} {a b : Int}  {S : World → Prop} {k : Value → Prop} (hne : ∃ w, S w) : (std Try.prog).stepS S (sBin .neq t x y (.int q a) (.int q b)) k = k (.bool (decide (a ≠ b))) := stepS_run hne fun _ _ => r_neq
theorem px_quo {t : TypeId} {x y : Operand} {q : IntKind} {a b : Int} (h : b ≠ 0) {w : World} {K : Value → World → Prop} : (std Try.prog).step (sBin .quo t x y (.int q a) (.int q b)) w K = K (.int q (q.wrap (a.tdiv b))) w := step_run (r_quo h)
theorem sx_quo {t : TypeId} {x y : Operand} {q : IntKind} {a b : Int} (h : b ≠ 0) {S : World → Prop} {k : Value → Prop} (hne : ∃ w, S w) : (std Try.prog).stepS S (sBin .quo t x y (.int q a) (.int q b)) k = k (.int q (q.wrap (a.tdiv b))) := stepS_run hne fun _ _ => r_quo h
theorem px_rem {t : TypeId} {x y : Operand} {q : IntKind} {a b : Int} (h : b ≠ 0) {w : World} {K : Value → World → Prop} : (std Try.prog).step (sBin .rem t x y (.int q a) (.int q b)) w K = K (.int q (a.tmod b)) w := step_run (r_rem h)
theorem sx_rem {t : TypeId} {x y : Operand} {q : IntKind} {a b : Int} (h : b ≠ 0) {S : World → Prop} {k : Value → Prop} (hne : ∃ w, S w) : (std Try.prog).stepS S (sBin .rem t x y (.int q a) (.int q b)) k = k (.int q (a.tmod b)) := stepS_run hne fun _ _ => r_rem h
theorem px_shl {t : TypeId} {x y : Operand} {q q' : IntKind} {a b : Int} (h : ¬ b < 0) {w : World} {K : Value → World → Prop} : (std Try.prog).step (sBin .shl t x y (.int q a) (.int q' b)) w K = K (.int q (q.wrap (a * 2 ^ (min b.toNat q.bits)))) w := step_run (r_shl h)
theorem sx_shl {t : TypeId} {x y : Operand} {q q' : IntKind} {a b : Int} (h : ¬ b < 0) {S : World → Prop} {k : Value → Prop} (hne : ∃ w, S w) : (std Try.prog).stepS S (sBin .shl t x y (.int q a) (.int q' b)) k = k (.int q (q.wrap (a * 2 ^ (min b.toNat q.bits)))) := stepS_run hne fun _ _ => r_shl h
theorem px_shr {t : TypeId} {x y : Operand} {q q' : IntKind} {a b : Int} (h : ¬ b < 0) {w : World} {K : Value → World → Prop} : (std Try.prog).step (sBin .shr t x y (.int q a) (.int q' b)) w K = K (.int q (a.fdiv (2 ^ (min b.toNat q.bits)))) w := step_run (r_shr h)
theorem sx_shr {t : TypeId} {x y : Operand} {q q' : IntKind} {a b : Int} (h : ¬ b < 0) {S : World → Prop} {k : Value → Prop} (hne : ∃ w, S w) : (std Try.prog).stepS S (sBin .shr t x y (.int q a) (.int q' b)) k = k (.int q (a.fdiv (2 ^ (min b.toNat q.bits)))) := stepS_run hne fun _ _ => r_shr h
theorem px_seql {t : TypeId} {x y : Operand} {a b : ByteArray}  {w : World} {K : Value → World → Prop} : (std Try.prog).step (sBin .eql t x y (.string a) (.string b)) w K = K (.bool (decide (a = b))) w := step_run (r_seql)
theorem sx_seql {t : TypeId} {x y : Operand} {a b : ByteArray}  {S : World → Prop} {k : Value → Prop} (hne : ∃ w, S w) : (std Try.prog).stepS S (sBin .eql t x y (.string a) (.string b)) k = k (.bool (decide (a = b))) := stepS_run hne fun _ _ => r_seql
theorem px_sneq {t : TypeId} {x y : Operand} {a b : ByteArray}  {w : World} {K : Value → World → Prop} : (std Try.prog).step (sBin .neq t x y (.string a) (.string b)) w K = K (.bool (!decide (a = b))) w := step_run (r_sneq)
theorem sx_sneq {t : TypeId} {x y : Operand} {a b : ByteArray}  {S : World → Prop} {k : Value → Prop} (hne : ∃ w, S w) : (std Try.prog).stepS S (sBin .neq t x y (.string a) (.string b)) k = k (.bool (!decide (a = b))) := stepS_run hne fun _ _ => r_sneq
theorem px_sadd {t : TypeId} {x y : Operand} {a b : ByteArray} (h : a.size + b.size ≤ 9223372036854775807) {w : World} {K : Value → World → Prop} : (std Try.prog).step (sBin .add t x y (.string a) (.string b)) w K = K (.string (a ++ b)) w := step_run (r_sadd h)
theorem sx_sadd {t : TypeId} {x y : Operand} {a b : ByteArray} (h : a.size + b.size ≤ 9223372036854775807) {S : World → Prop} {k : Value → Prop} (hne : ∃ w, S w) : (std Try.prog).stepS S (sBin .add t x y (.string a) (.string b)) k = k (.string (a ++ b)) := stepS_run hne fun _ _ => r_sadd h
theorem px_not {b : Bool}  {w : World} {K : Value → World → Prop} : (std Try.prog).step (sUn .not (.bool b)) w K = K (.bool (!b)) w := step_run (r_not)
theorem sx_not {b : Bool}  {S : World → Prop} {k : Value → Prop} (hne : ∃ w, S w) : (std Try.prog).stepS S (sUn .not (.bool b)) k = k (.bool (!b)) := stepS_run hne fun _ _ => r_not
theorem px_neg {q : IntKind} {a : Int}  {w : World} {K : Value → World → Prop} : (std Try.prog).step (sUn .neg (.int q a)) w K = K (.int q (q.wrap (0 - a))) w := step_run (r_neg)
theorem sx_neg {q : IntKind} {a : Int}  {S : World → Prop} {k : Value → Prop} (hne : ∃ w, S w) : (std Try.prog).stepS S (sUn .neg (.int q a)) k = k (.int q (q.wrap (0 - a))) := stepS_run hne fun _ _ => r_neg
theorem px_inv {q : IntKind} {a : Int}  {w : World} {K : Value → World → Prop} : (std Try.prog).step (sUn .xor (.int q a)) w K = K (.int q (bitOp .xor q (if q.signed then -1 else q.max) a)) w := step_run (r_inv)
theorem sx_inv {q : IntKind} {a : Int}  {S : World → Prop} {k : Value → Prop} (hne : ∃ w, S w) : (std Try.prog).stepS S (sUn .xor (.int q a)) k = k (.int q (bitOp .xor q (if q.signed then -1 else q.max) a)) := stepS_run hne fun _ _ => r_inv
theorem px_nilc {a : Addr}  {w : World} {K : Value → World → Prop} : (std Try.prog).step (sNil (.pointer (some a))) w K = K (.pointer (some a)) w := step_run (r_nil)
theorem sx_nilc {a : Addr}  {S : World → Prop} {k : Value → Prop} (hne : ∃ w, S w) : (std Try.prog).stepS S (sNil (.pointer (some a))) k = k (.pointer (some a)) := stepS_run hne fun _ _ => r_nil
theorem px_ext20 {a b : Value}  {w : World} {K : Value → World → Prop} : (std Try.prog).step (sExtract (.tuple #[a, b]) 0) w K = K (a) w := step_run (r_ext20)
theorem sx_ext20 {a b : Value}  {S : World → Prop} {k : Value → Prop} (hne : ∃ w, S w) : (std Try.prog).stepS S (sExtract (.tuple #[a, b]) 0) k = k (a) := stepS_run hne fun _ _ => r_ext20
theorem px_ext21 {a b : Value}  {w : World} {K : Value → World → Prop} : (std Try.prog).step (sExtract (.tuple #[a, b]) 1) w K = K (b) w := step_run (r_ext21)
theorem sx_ext21 {a b : Value}  {S : World → Prop} {k : Value → Prop} (hne : ∃ w, S w) : (std Try.prog).stepS S (sExtract (.tuple #[a, b]) 1) k = k (b) := stepS_run hne fun _ _ => r_ext21
theorem px_ext30 {a b c : Value}  {w : World} {K : Value → World → Prop} : (std Try.prog).step (sExtract (.tuple #[a, b, c]) 0) w K = K (a) w := step_run (r_ext30)
theorem sx_ext30 {a b c : Value}  {S : World → Prop} {k : Value → Prop} (hne : ∃ w, S w) : (std Try.prog).stepS S (sExtract (.tuple #[a, b, c]) 0) k = k (a) := stepS_run hne fun _ _ => r_ext30
theorem px_ext31 {a b c : Value}  {w : World} {K : Value → World → Prop} : (std Try.prog).step (sExtract (.tuple #[a, b, c]) 1) w K = K (b) w := step_run (r_ext31)
theorem sx_ext31 {a b c : Value}  {S : World → Prop} {k : Value → Prop} (hne : ∃ w, S w) : (std Try.prog).stepS S (sExtract (.tuple #[a, b, c]) 1) k = k (b) := stepS_run hne fun _ _ => r_ext31
theorem px_ext32 {a b c : Value}  {w : World} {K : Value → World → Prop} : (std Try.prog).step (sExtract (.tuple #[a, b, c]) 2) w K = K (c) w := step_run (r_ext32)
theorem sx_ext32 {a b c : Value}  {S : World → Prop} {k : Value → Prop} (hne : ∃ w, S w) : (std Try.prog).stepS S (sExtract (.tuple #[a, b, c]) 2) k = k (c) := stepS_run hne fun _ _ => r_ext32
theorem px_min {ats : Array TypeId} {ty : TypeId} {c : List Bool} {q : IntKind} {a b : Int}  {w : World} {K : Value → World → Prop} : (std Try.prog).step (sBuiltin .min ats ty c [.int q a, .int q b]) w K = K (.int q (if b < a then b else a)) w := step_run (r_min)
theorem sx_min {ats : Array TypeId} {ty : TypeId} {c : List Bool} {q : IntKind} {a b : Int}  {S : World → Prop} {k : Value → Prop} (hne : ∃ w, S w) : (std Try.prog).stepS S (sBuiltin .min ats ty c [.int q a, .int q b]) k = k (.int q (if b < a then b else a)) := stepS_run hne fun _ _ => r_min
theorem px_max {ats : Array TypeId} {ty : TypeId} {c : List Bool} {q : IntKind} {a b : Int}  {w : World} {K : Value → World → Prop} : (std Try.prog).step (sBuiltin .max ats ty c [.int q a, .int q b]) w K = K (.int q (if a < b then b else a)) w := step_run (r_max)
theorem sx_max {ats : Array TypeId} {ty : TypeId} {c : List Bool} {q : IntKind} {a b : Int}  {S : World → Prop} {k : Value → Prop} (hne : ∃ w, S w) : (std Try.prog).stepS S (sBuiltin .max ats ty c [.int q a, .int q b]) k = k (.int q (if a < b then b else a)) := stepS_run hne fun _ _ => r_max
theorem px_peql101 {x y : Operand} {a : Addr}  {w : World} {K : Value → World → Prop} : (std Try.prog).step (sBin .eql 101 x y (.pointer (some a)) (.pointer none)) w K = K (.bool false) w := step_run (rpeql101)
theorem sx_peql101 {x y : Operand} {a : Addr}  {S : World → Prop} {k : Value → Prop} (hne : ∃ w, S w) : (std Try.prog).stepS S (sBin .eql 101 x y (.pointer (some a)) (.pointer none)) k = k (.bool false) := stepS_run hne fun _ _ => rpeql101
theorem px_neql101 {x y : Operand}  {w : World} {K : Value → World → Prop} : (std Try.prog).step (sBin .eql 101 x y (.pointer none) (.pointer none)) w K = K (.bool true) w := step_run (rneql101)
theorem sx_neql101 {x y : Operand}  {S : World → Prop} {k : Value → Prop} (hne : ∃ w, S w) : (std Try.prog).stepS S (sBin .eql 101 x y (.pointer none) (.pointer none)) k = k (.bool true) := stepS_run hne fun _ _ => rneql101
theorem px_peql146 {x y : Operand} {a : Addr}  {w : World} {K : Value → World → Prop} : (std Try.prog).step (sBin .eql 146 x y (.pointer (some a)) (.pointer none)) w K = K (.bool false) w := step_run (rpeql146)
theorem sx_peql146 {x y : Operand} {a : Addr}  {S : World → Prop} {k : Value → Prop} (hne : ∃ w, S w) : (std Try.prog).stepS S (sBin .eql 146 x y (.pointer (some a)) (.pointer none)) k = k (.bool false) := stepS_run hne fun _ _ => rpeql146
theorem px_neql146 {x y : Operand}  {w : World} {K : Value → World → Prop} : (std Try.prog).step (sBin .eql 146 x y (.pointer none) (.pointer none)) w K = K (.bool true) w := step_run (rneql146)
theorem sx_neql146 {x y : Operand}  {S : World → Prop} {k : Value → Prop} (hne : ∃ w, S w) : (std Try.prog).stepS S (sBin .eql 146 x y (.pointer none) (.pointer none)) k = k (.bool true) := stepS_run hne fun _ _ => rneql146
theorem px_peql23 {x y : Operand} {a : Addr}  {w : World} {K : Value → World → Prop} : (std Try.prog).step (sBin .eql 23 x y (.pointer (some a)) (.pointer none)) w K = K (.bool false) w := step_run (rpeql23)
theorem sx_peql23 {x y : Operand} {a : Addr}  {S : World → Prop} {k : Value → Prop} (hne : ∃ w, S w) : (std Try.prog).stepS S (sBin .eql 23 x y (.pointer (some a)) (.pointer none)) k = k (.bool false) := stepS_run hne fun _ _ => rpeql23
theorem px_neql23 {x y : Operand}  {w : World} {K : Value → World → Prop} : (std Try.prog).step (sBin .eql 23 x y (.pointer none) (.pointer none)) w K = K (.bool true) w := step_run (rneql23)
theorem sx_neql23 {x y : Operand}  {S : World → Prop} {k : Value → Prop} (hne : ∃ w, S w) : (std Try.prog).stepS S (sBin .eql 23 x y (.pointer none) (.pointer none)) k = k (.bool true) := stepS_run hne fun _ _ => rneql23
theorem px_peql28 {x y : Operand} {a : Addr}  {w : World} {K : Value → World → Prop} : (std Try.prog).step (sBin .eql 28 x y (.pointer (some a)) (.pointer none)) w K = K (.bool false) w := step_run (rpeql28)
theorem sx_peql28 {x y : Operand} {a : Addr}  {S : World → Prop} {k : Value → Prop} (hne : ∃ w, S w) : (std Try.prog).stepS S (sBin .eql 28 x y (.pointer (some a)) (.pointer none)) k = k (.bool false) := stepS_run hne fun _ _ => rpeql28
theorem px_neql28 {x y : Operand}  {w : World} {K : Value → World → Prop} : (std Try.prog).step (sBin .eql 28 x y (.pointer none) (.pointer none)) w K = K (.bool true) w := step_run (rneql28)
theorem sx_neql28 {x y : Operand}  {S : World → Prop} {k : Value → Prop} (hne : ∃ w, S w) : (std Try.prog).stepS S (sBin .eql 28 x y (.pointer none) (.pointer none)) k = k (.bool true) := stepS_run hne fun _ _ => rneql28
theorem px_beql4 {x y : Operand} {a b : Bool}  {w : World} {K : Value → World → Prop} : (std Try.prog).step (sBin .eql 4 x y (.bool a) (.bool b)) w K = K (.bool (a == b)) w := step_run (r_beql u4)
theorem sx_beql4 {x y : Operand} {a b : Bool}  {S : World → Prop} {k : Value → Prop} (hne : ∃ w, S w) : (std Try.prog).stepS S (sBin .eql 4 x y (.bool a) (.bool b)) k = k (.bool (a == b)) := stepS_run hne fun _ _ => r_beql u4
theorem px_peql81 {x y : Operand} {a : Addr}  {w : World} {K : Value → World → Prop} : (std Try.prog).step (sBin .eql 81 x y (.pointer (some a)) (.pointer none)) w K = K (.bool false) w := step_run (rpeql81)
theorem sx_peql81 {x y : Operand} {a : Addr}  {S : World → Prop} {k : Value → Prop} (hne : ∃ w, S w) : (std Try.prog).stepS S (sBin .eql 81 x y (.pointer (some a)) (.pointer none)) k = k (.bool false) := stepS_run hne fun _ _ => rpeql81
theorem px_neql81 {x y : Operand}  {w : World} {K : Value → World → Prop} : (std Try.prog).step (sBin .eql 81 x y (.pointer none) (.pointer none)) w K = K (.bool true) w := step_run (rneql81)
theorem sx_neql81 {x y : Operand}  {S : World → Prop} {k : Value → Prop} (hne : ∃ w, S w) : (std Try.prog).stepS S (sBin .eql 81 x y (.pointer none) (.pointer none)) k = k (.bool true) := stepS_run hne fun _ _ => rneql81
theorem px_pneq23 {x y : Operand} {a : Addr}  {w : World} {K : Value → World → Prop} : (std Try.prog).step (sBin .neq 23 x y (.pointer (some a)) (.pointer none)) w K = K (.bool true) w := step_run (rpneq23)
theorem sx_pneq23 {x y : Operand} {a : Addr}  {S : World → Prop} {k : Value → Prop} (hne : ∃ w, S w) : (std Try.prog).stepS S (sBin .neq 23 x y (.pointer (some a)) (.pointer none)) k = k (.bool true) := stepS_run hne fun _ _ => rpneq23
theorem px_nneq23 {x y : Operand}  {w : World} {K : Value → World → Prop} : (std Try.prog).step (sBin .neq 23 x y (.pointer none) (.pointer none)) w K = K (.bool false) w := step_run (rnneq23)
theorem sx_nneq23 {x y : Operand}  {S : World → Prop} {k : Value → Prop} (hne : ∃ w, S w) : (std Try.prog).stepS S (sBin .neq 23 x y (.pointer none) (.pointer none)) k = k (.bool false) := stepS_run hne fun _ _ => rnneq23
theorem px_pneq28 {x y : Operand} {a : Addr}  {w : World} {K : Value → World → Prop} : (std Try.prog).step (sBin .neq 28 x y (.pointer (some a)) (.pointer none)) w K = K (.bool true) w := step_run (rpneq28)
theorem sx_pneq28 {x y : Operand} {a : Addr}  {S : World → Prop} {k : Value → Prop} (hne : ∃ w, S w) : (std Try.prog).stepS S (sBin .neq 28 x y (.pointer (some a)) (.pointer none)) k = k (.bool true) := stepS_run hne fun _ _ => rpneq28
theorem px_nneq28 {x y : Operand}  {w : World} {K : Value → World → Prop} : (std Try.prog).step (sBin .neq 28 x y (.pointer none) (.pointer none)) w K = K (.bool false) w := step_run (rnneq28)
theorem sx_nneq28 {x y : Operand}  {S : World → Prop} {k : Value → Prop} (hne : ∃ w, S w) : (std Try.prog).stepS S (sBin .neq 28 x y (.pointer none) (.pointer none)) k = k (.bool false) := stepS_run hne fun _ _ => rnneq28
theorem px_bneq4 {x y : Operand} {a b : Bool}  {w : World} {K : Value → World → Prop} : (std Try.prog).step (sBin .neq 4 x y (.bool a) (.bool b)) w K = K (.bool (!(a == b))) w := step_run (r_bneq u4)
theorem sx_bneq4 {x y : Operand} {a b : Bool}  {S : World → Prop} {k : Value → Prop} (hne : ∃ w, S w) : (std Try.prog).stepS S (sBin .neq 4 x y (.bool a) (.bool b)) k = k (.bool (!(a == b))) := stepS_run hne fun _ _ => r_bneq u4
theorem px_pneq81 {x y : Operand} {a : Addr}  {w : World} {K : Value → World → Prop} : (std Try.prog).step (sBin .neq 81 x y (.pointer (some a)) (.pointer none)) w K = K (.bool true) w := step_run (rpneq81)
theorem sx_pneq81 {x y : Operand} {a : Addr}  {S : World → Prop} {k : Value → Prop} (hne : ∃ w, S w) : (std Try.prog).stepS S (sBin .neq 81 x y (.pointer (some a)) (.pointer none)) k = k (.bool true) := stepS_run hne fun _ _ => rpneq81
theorem px_nneq81 {x y : Operand}  {w : World} {K : Value → World → Prop} : (std Try.prog).step (sBin .neq 81 x y (.pointer none) (.pointer none)) w K = K (.bool false) w := step_run (rnneq81)
theorem sx_nneq81 {x y : Operand}  {S : World → Prop} {k : Value → Prop} (hne : ∃ w, S w) : (std Try.prog).stepS S (sBin .neq 81 x y (.pointer none) (.pointer none)) k = k (.bool false) := stepS_run hne fun _ _ => rnneq81
theorem px_len22 {ty : TypeId} {c : List Bool} {A : Option Addr} {n m : Nat}  {w : World} {K : Value → World → Prop} : (std Try.prog).step (sBuiltin .len #[22] ty c [.slice A n m]) w K = K (.int .i64 n) w := step_run (r_lens u22)
theorem sx_len22 {ty : TypeId} {c : List Bool} {A : Option Addr} {n m : Nat}  {S : World → Prop} {k : Value → Prop} (hne : ∃ w, S w) : (std Try.prog).stepS S (sBuiltin .len #[22] ty c [.slice A n m]) k = k (.int .i64 n) := stepS_run hne fun _ _ => r_lens u22
theorem px_len31 {ty : TypeId} {c : List Bool} {A : Option Addr} {n m : Nat}  {w : World} {K : Value → World → Prop} : (std Try.prog).step (sBuiltin .len #[31] ty c [.slice A n m]) w K = K (.int .i64 n) w := step_run (r_lens u31)
theorem sx_len31 {ty : TypeId} {c : List Bool} {A : Option Addr} {n m : Nat}  {S : World → Prop} {k : Value → Prop} (hne : ∃ w, S w) : (std Try.prog).stepS S (sBuiltin .len #[31] ty c [.slice A n m]) k = k (.int .i64 n) := stepS_run hne fun _ _ => r_lens u31
theorem px_len38 {ty : TypeId} {c : List Bool} {A : Option Addr} {n m : Nat}  {w : World} {K : Value → World → Prop} : (std Try.prog).step (sBuiltin .len #[38] ty c [.slice A n m]) w K = K (.int .i64 n) w := step_run (r_lens u38)
theorem sx_len38 {ty : TypeId} {c : List Bool} {A : Option Addr} {n m : Nat}  {S : World → Prop} {k : Value → Prop} (hne : ∃ w, S w) : (std Try.prog).stepS S (sBuiltin .len #[38] ty c [.slice A n m]) k = k (.int .i64 n) := stepS_run hne fun _ _ => r_lens u38
theorem px_len39 {ty : TypeId} {c : List Bool} {A : Option Addr} {n m : Nat}  {w : World} {K : Value → World → Prop} : (std Try.prog).step (sBuiltin .len #[39] ty c [.slice A n m]) w K = K (.int .i64 n) w := step_run (r_lens u39)
theorem sx_len39 {ty : TypeId} {c : List Bool} {A : Option Addr} {n m : Nat}  {S : World → Prop} {k : Value → Prop} (hne : ∃ w, S w) : (std Try.prog).stepS S (sBuiltin .len #[39] ty c [.slice A n m]) k = k (.int .i64 n) := stepS_run hne fun _ _ => r_lens u39
theorem px_len51 {ty : TypeId} {c : List Bool} {A : Option Addr} {n m : Nat}  {w : World} {K : Value → World → Prop} : (std Try.prog).step (sBuiltin .len #[51] ty c [.slice A n m]) w K = K (.int .i64 n) w := step_run (r_lens u51)
theorem sx_len51 {ty : TypeId} {c : List Bool} {A : Option Addr} {n m : Nat}  {S : World → Prop} {k : Value → Prop} (hne : ∃ w, S w) : (std Try.prog).stepS S (sBuiltin .len #[51] ty c [.slice A n m]) k = k (.int .i64 n) := stepS_run hne fun _ _ => r_lens u51
theorem px_len87 {ty : TypeId} {c : List Bool} {A : Option Addr} {n m : Nat}  {w : World} {K : Value → World → Prop} : (std Try.prog).step (sBuiltin .len #[87] ty c [.slice A n m]) w K = K (.int .i64 n) w := step_run (r_lens u87)
theorem sx_len87 {ty : TypeId} {c : List Bool} {A : Option Addr} {n m : Nat}  {S : World → Prop} {k : Value → Prop} (hne : ∃ w, S w) : (std Try.prog).stepS S (sBuiltin .len #[87] ty c [.slice A n m]) k = k (.int .i64 n) := stepS_run hne fun _ _ => r_lens u87
theorem px_len9 {ty : TypeId} {c : List Bool} {s : ByteArray}  {w : World} {K : Value → World → Prop} : (std Try.prog).step (sBuiltin .len #[9] ty c [.string s]) w K = K (.int .i64 s.size) w := step_run (r_lenstr u9)
theorem sx_len9 {ty : TypeId} {c : List Bool} {s : ByteArray}  {S : World → Prop} {k : Value → Prop} (hne : ∃ w, S w) : (std Try.prog).stepS S (sBuiltin .len #[9] ty c [.string s]) k = k (.int .i64 s.size) := stepS_run hne fun _ _ => r_lenstr u9
theorem px_len93 {ty : TypeId} {c : List Bool} {A : Option Addr} {n m : Nat}  {w : World} {K : Value → World → Prop} : (std Try.prog).step (sBuiltin .len #[93] ty c [.slice A n m]) w K = K (.int .i64 n) w := step_run (r_lens u93)
theorem sx_len93 {ty : TypeId} {c : List Bool} {A : Option Addr} {n m : Nat}  {S : World → Prop} {k : Value → Prop} (hne : ∃ w, S w) : (std Try.prog).stepS S (sBuiltin .len #[93] ty c [.slice A n m]) k = k (.int .i64 n) := stepS_run hne fun _ _ => r_lens u93
theorem px_cv104_3 {q : IntKind} {n : Int}  {w : World} {K : Value → World → Prop} : (std Try.prog).step (sConv 104 3 (.int q n)) w K = K (.int .i64 (IntKind.wrap .i64 n)) w := step_run (r_conv u104 u3)
theorem sx_cv104_3 {q : IntKind} {n : Int}  {S : World → Prop} {k : Value → Prop} (hne : ∃ w, S w) : (std Try.prog).stepS S (sConv 104 3 (.int q n)) k = k (.int .i64 (IntKind.wrap .i64 n)) := stepS_run hne fun _ _ => r_conv u104 u3
theorem px_cv104_32 {q : IntKind} {n : Int}  {w : World} {K : Value → World → Prop} : (std Try.prog).step (sConv 104 32 (.int q n)) w K = K (.int .u64 (IntKind.wrap .u64 n)) w := step_run (r_conv u104 u32)
theorem sx_cv104_32 {q : IntKind} {n : Int}  {S : World → Prop} {k : Value → Prop} (hne : ∃ w, S w) : (std Try.prog).stepS S (sConv 104 32 (.int q n)) k = k (.int .u64 (IntKind.wrap .u64 n)) := stepS_run hne fun _ _ => r_conv u104 u32
theorem px_cv104_5 {q : IntKind} {n : Int}  {w : World} {K : Value → World → Prop} : (std Try.prog).step (sConv 104 5 (.int q n)) w K = K (.int .u8 (IntKind.wrap .u8 n)) w := step_run (r_conv u104 u5)
theorem sx_cv104_5 {q : IntKind} {n : Int}  {S : World → Prop} {k : Value → Prop} (hne : ∃ w, S w) : (std Try.prog).stepS S (sConv 104 5 (.int q n)) k = k (.int .u8 (IntKind.wrap .u8 n)) := stepS_run hne fun _ _ => r_conv u104 u5
theorem px_cv132_3 {q : IntKind} {n : Int}  {w : World} {K : Value → World → Prop} : (std Try.prog).step (sConv 132 3 (.int q n)) w K = K (.int .i64 (IntKind.wrap .i64 n)) w := step_run (r_conv u132 u3)
theorem sx_cv132_3 {q : IntKind} {n : Int}  {S : World → Prop} {k : Value → Prop} (hne : ∃ w, S w) : (std Try.prog).stepS S (sConv 132 3 (.int q n)) k = k (.int .i64 (IntKind.wrap .i64 n)) := stepS_run hne fun _ _ => r_conv u132 u3
theorem px_cv134_32 {q : IntKind} {n : Int}  {w : World} {K : Value → World → Prop} : (std Try.prog).step (sConv 134 32 (.int q n)) w K = K (.int .u64 (IntKind.wrap .u64 n)) w := step_run (r_conv u134 u32)
theorem sx_cv134_32 {q : IntKind} {n : Int}  {S : World → Prop} {k : Value → Prop} (hne : ∃ w, S w) : (std Try.prog).stepS S (sConv 134 32 (.int q n)) k = k (.int .u64 (IntKind.wrap .u64 n)) := stepS_run hne fun _ _ => r_conv u134 u32
theorem px_cv134_5 {q : IntKind} {n : Int}  {w : World} {K : Value → World → Prop} : (std Try.prog).step (sConv 134 5 (.int q n)) w K = K (.int .u8 (IntKind.wrap .u8 n)) w := step_run (r_conv u134 u5)
theorem sx_cv134_5 {q : IntKind} {n : Int}  {S : World → Prop} {k : Value → Prop} (hne : ∃ w, S w) : (std Try.prog).stepS S (sConv 134 5 (.int q n)) k = k (.int .u8 (IntKind.wrap .u8 n)) := stepS_run hne fun _ _ => r_conv u134 u5
theorem px_cv149_3 {q : IntKind} {n : Int}  {w : World} {K : Value → World → Prop} : (std Try.prog).step (sConv 149 3 (.int q n)) w K = K (.int .i64 (IntKind.wrap .i64 n)) w := step_run (r_conv u149 u3)
theorem sx_cv149_3 {q : IntKind} {n : Int}  {S : World → Prop} {k : Value → Prop} (hne : ∃ w, S w) : (std Try.prog).stepS S (sConv 149 3 (.int q n)) k = k (.int .i64 (IntKind.wrap .i64 n)) := stepS_run hne fun _ _ => r_conv u149 u3
theorem px_cv149_32 {q : IntKind} {n : Int}  {w : World} {K : Value → World → Prop} : (std Try.prog).step (sConv 149 32 (.int q n)) w K = K (.int .u64 (IntKind.wrap .u64 n)) w := step_run (r_conv u149 u32)
theorem sx_cv149_32 {q : IntKind} {n : Int}  {S : World → Prop} {k : Value → Prop} (hne : ∃ w, S w) : (std Try.prog).stepS S (sConv 149 32 (.int q n)) k = k (.int .u64 (IntKind.wrap .u64 n)) := stepS_run hne fun _ _ => r_conv u149 u32
theorem px_cv3_104 {q : IntKind} {n : Int}  {w : World} {K : Value → World → Prop} : (std Try.prog).step (sConv 3 104 (.int q n)) w K = K (.int .u32 (IntKind.wrap .u32 n)) w := step_run (r_conv u3 u104)
theorem sx_cv3_104 {q : IntKind} {n : Int}  {S : World → Prop} {k : Value → Prop} (hne : ∃ w, S w) : (std Try.prog).stepS S (sConv 3 104 (.int q n)) k = k (.int .u32 (IntKind.wrap .u32 n)) := stepS_run hne fun _ _ => r_conv u3 u104
theorem px_cv3_132 {q : IntKind} {n : Int}  {w : World} {K : Value → World → Prop} : (std Try.prog).step (sConv 3 132 (.int q n)) w K = K (.int .u64 (IntKind.wrap .u64 n)) w := step_run (r_conv u3 u132)
theorem sx_cv3_132 {q : IntKind} {n : Int}  {S : World → Prop} {k : Value → Prop} (hne : ∃ w, S w) : (std Try.prog).stepS S (sConv 3 132 (.int q n)) k = k (.int .u64 (IntKind.wrap .u64 n)) := stepS_run hne fun _ _ => r_conv u3 u132
theorem px_cv3_149 {q : IntKind} {n : Int}  {w : World} {K : Value → World → Prop} : (std Try.prog).step (sConv 3 149 (.int q n)) w K = K (.int .u16 (IntKind.wrap .u16 n)) w := step_run (r_conv u3 u149)
theorem sx_cv3_149 {q : IntKind} {n : Int}  {S : World → Prop} {k : Value → Prop} (hne : ∃ w, S w) : (std Try.prog).stepS S (sConv 3 149 (.int q n)) k = k (.int .u16 (IntKind.wrap .u16 n)) := stepS_run hne fun _ _ => r_conv u3 u149
theorem px_cv3_32 {q : IntKind} {n : Int}  {w : World} {K : Value → World → Prop} : (std Try.prog).step (sConv 3 32 (.int q n)) w K = K (.int .u64 (IntKind.wrap .u64 n)) w := step_run (r_conv u3 u32)
theorem sx_cv3_32 {q : IntKind} {n : Int}  {S : World → Prop} {k : Value → Prop} (hne : ∃ w, S w) : (std Try.prog).stepS S (sConv 3 32 (.int q n)) k = k (.int .u64 (IntKind.wrap .u64 n)) := stepS_run hne fun _ _ => r_conv u3 u32
theorem px_cv3_5 {q : IntKind} {n : Int}  {w : World} {K : Value → World → Prop} : (std Try.prog).step (sConv 3 5 (.int q n)) w K = K (.int .u8 (IntKind.wrap .u8 n)) w := step_run (r_conv u3 u5)
theorem sx_cv3_5 {q : IntKind} {n : Int}  {S : World → Prop} {k : Value → Prop} (hne : ∃ w, S w) : (std Try.prog).stepS S (sConv 3 5 (.int q n)) k = k (.int .u8 (IntKind.wrap .u8 n)) := stepS_run hne fun _ _ => r_conv u3 u5
theorem px_cv32_104 {q : IntKind} {n : Int}  {w : World} {K : Value → World → Prop} : (std Try.prog).step (sConv 32 104 (.int q n)) w K = K (.int .u32 (IntKind.wrap .u32 n)) w := step_run (r_conv u32 u104)
theorem sx_cv32_104 {q : IntKind} {n : Int}  {S : World → Prop} {k : Value → Prop} (hne : ∃ w, S w) : (std Try.prog).stepS S (sConv 32 104 (.int q n)) k = k (.int .u32 (IntKind.wrap .u32 n)) := stepS_run hne fun _ _ => r_conv u32 u104
theorem px_cv32_134 {q : IntKind} {n : Int}  {w : World} {K : Value → World → Prop} : (std Try.prog).step (sConv 32 134 (.int q n)) w K = K (.int .i64 (IntKind.wrap .i64 n)) w := step_run (r_conv u32 u134)
theorem sx_cv32_134 {q : IntKind} {n : Int}  {S : World → Prop} {k : Value → Prop} (hne : ∃ w, S w) : (std Try.prog).stepS S (sConv 32 134 (.int q n)) k = k (.int .i64 (IntKind.wrap .i64 n)) := stepS_run hne fun _ _ => r_conv u32 u134
theorem px_cv32_149 {q : IntKind} {n : Int}  {w : World} {K : Value → World → Prop} : (std Try.prog).step (sConv 32 149 (.int q n)) w K = K (.int .u16 (IntKind.wrap .u16 n)) w := step_run (r_conv u32 u149)
theorem sx_cv32_149 {q : IntKind} {n : Int}  {S : World → Prop} {k : Value → Prop} (hne : ∃ w, S w) : (std Try.prog).stepS S (sConv 32 149 (.int q n)) k = k (.int .u16 (IntKind.wrap .u16 n)) := stepS_run hne fun _ _ => r_conv u32 u149
theorem px_cv32_3 {q : IntKind} {n : Int}  {w : World} {K : Value → World → Prop} : (std Try.prog).step (sConv 32 3 (.int q n)) w K = K (.int .i64 (IntKind.wrap .i64 n)) w := step_run (r_conv u32 u3)
theorem sx_cv32_3 {q : IntKind} {n : Int}  {S : World → Prop} {k : Value → Prop} (hne : ∃ w, S w) : (std Try.prog).stepS S (sConv 32 3 (.int q n)) k = k (.int .i64 (IntKind.wrap .i64 n)) := stepS_run hne fun _ _ => r_conv u32 u3
theorem px_cv32_33 {q : IntKind} {n : Int}  {w : World} {K : Value → World → Prop} : (std Try.prog).step (sConv 32 33 (.int q n)) w K = K (.int .i64 (IntKind.wrap .i64 n)) w := step_run (r_conv u32 u33)
theorem sx_cv32_33 {q : IntKind} {n : Int}  {S : World → Prop} {k : Value → Prop} (hne : ∃ w, S w) : (std Try.prog).stepS S (sConv 32 33 (.int q n)) k = k (.int .i64 (IntKind.wrap .i64 n)) := stepS_run hne fun _ _ => r_conv u32 u33
theorem px_cv32_35 {q : IntKind} {n : Int}  {w : World} {K : Value → World → Prop} : (std Try.prog).step (sConv 32 35 (.int q n)) w K = K (.int .i64 (IntKind.wrap .i64 n)) w := step_run (r_conv u32 u35)
theorem sx_cv32_35 {q : IntKind} {n : Int}  {S : World → Prop} {k : Value → Prop} (hne : ∃ w, S w) : (std Try.prog).stepS S (sConv 32 35 (.int q n)) k = k (.int .i64 (IntKind.wrap .i64 n)) := stepS_run hne fun _ _ => r_conv u32 u35
theorem px_cv32_5 {q : IntKind} {n : Int}  {w : World} {K : Value → World → Prop} : (std Try.prog).step (sConv 32 5 (.int q n)) w K = K (.int .u8 (IntKind.wrap .u8 n)) w := step_run (r_conv u32 u5)
theorem sx_cv32_5 {q : IntKind} {n : Int}  {S : World → Prop} {k : Value → Prop} (hne : ∃ w, S w) : (std Try.prog).stepS S (sConv 32 5 (.int q n)) k = k (.int .u8 (IntKind.wrap .u8 n)) := stepS_run hne fun _ _ => r_conv u32 u5
theorem px_cv33_32 {q : IntKind} {n : Int}  {w : World} {K : Value → World → Prop} : (std Try.prog).step (sConv 33 32 (.int q n)) w K = K (.int .u64 (IntKind.wrap .u64 n)) w := step_run (r_conv u33 u32)
theorem sx_cv33_32 {q : IntKind} {n : Int}  {S : World → Prop} {k : Value → Prop} (hne : ∃ w, S w) : (std Try.prog).stepS S (sConv 33 32 (.int q n)) k = k (.int .u64 (IntKind.wrap .u64 n)) := stepS_run hne fun _ _ => r_conv u33 u32
theorem px_cv33_5 {q : IntKind} {n : Int}  {w : World} {K : Value → World → Prop} : (std Try.prog).step (sConv 33 5 (.int q n)) w K = K (.int .u8 (IntKind.wrap .u8 n)) w := step_run (r_conv u33 u5)
theorem sx_cv33_5 {q : IntKind} {n : Int}  {S : World → Prop} {k : Value → Prop} (hne : ∃ w, S w) : (std Try.prog).stepS S (sConv 33 5 (.int q n)) k = k (.int .u8 (IntKind.wrap .u8 n)) := stepS_run hne fun _ _ => r_conv u33 u5
theorem px_cv35_32 {q : IntKind} {n : Int}  {w : World} {K : Value → World → Prop} : (std Try.prog).step (sConv 35 32 (.int q n)) w K = K (.int .u64 (IntKind.wrap .u64 n)) w := step_run (r_conv u35 u32)
theorem sx_cv35_32 {q : IntKind} {n : Int}  {S : World → Prop} {k : Value → Prop} (hne : ∃ w, S w) : (std Try.prog).stepS S (sConv 35 32 (.int q n)) k = k (.int .u64 (IntKind.wrap .u64 n)) := stepS_run hne fun _ _ => r_conv u35 u32
theorem px_cv35_5 {q : IntKind} {n : Int}  {w : World} {K : Value → World → Prop} : (std Try.prog).step (sConv 35 5 (.int q n)) w K = K (.int .u8 (IntKind.wrap .u8 n)) w := step_run (r_conv u35 u5)
theorem sx_cv35_5 {q : IntKind} {n : Int}  {S : World → Prop} {k : Value → Prop} (hne : ∃ w, S w) : (std Try.prog).stepS S (sConv 35 5 (.int q n)) k = k (.int .u8 (IntKind.wrap .u8 n)) := stepS_run hne fun _ _ => r_conv u35 u5
theorem px_cv5_104 {q : IntKind} {n : Int}  {w : World} {K : Value → World → Prop} : (std Try.prog).step (sConv 5 104 (.int q n)) w K = K (.int .u32 (IntKind.wrap .u32 n)) w := step_run (r_conv u5 u104)
theorem sx_cv5_104 {q : IntKind} {n : Int}  {S : World → Prop} {k : Value → Prop} (hne : ∃ w, S w) : (std Try.prog).stepS S (sConv 5 104 (.int q n)) k = k (.int .u32 (IntKind.wrap .u32 n)) := stepS_run hne fun _ _ => r_conv u5 u104
theorem px_cv5_134 {q : IntKind} {n : Int}  {w : World} {K : Value → World → Prop} : (std Try.prog).step (sConv 5 134 (.int q n)) w K = K (.int .i64 (IntKind.wrap .i64 n)) w := step_run (r_conv u5 u134)
theorem sx_cv5_134 {q : IntKind} {n : Int}  {S : World → Prop} {k : Value → Prop} (hne : ∃ w, S w) : (std Try.prog).stepS S (sConv 5 134 (.int q n)) k = k (.int .i64 (IntKind.wrap .i64 n)) := stepS_run hne fun _ _ => r_conv u5 u134
theorem px_cv5_3 {q : IntKind} {n : Int}  {w : World} {K : Value → World → Prop} : (std Try.prog).step (sConv 5 3 (.int q n)) w K = K (.int .i64 (IntKind.wrap .i64 n)) w := step_run (r_conv u5 u3)
theorem sx_cv5_3 {q : IntKind} {n : Int}  {S : World → Prop} {k : Value → Prop} (hne : ∃ w, S w) : (std Try.prog).stepS S (sConv 5 3 (.int q n)) k = k (.int .i64 (IntKind.wrap .i64 n)) := stepS_run hne fun _ _ => r_conv u5 u3
theorem px_cv5_32 {q : IntKind} {n : Int}  {w : World} {K : Value → World → Prop} : (std Try.prog).step (sConv 5 32 (.int q n)) w K = K (.int .u64 (IntKind.wrap .u64 n)) w := step_run (r_conv u5 u32)
theorem sx_cv5_32 {q : IntKind} {n : Int}  {S : World → Prop} {k : Value → Prop} (hne : ∃ w, S w) : (std Try.prog).stepS S (sConv 5 32 (.int q n)) k = k (.int .u64 (IntKind.wrap .u64 n)) := stepS_run hne fun _ _ => r_conv u5 u32
theorem px_cv5_33 {q : IntKind} {n : Int}  {w : World} {K : Value → World → Prop} : (std Try.prog).step (sConv 5 33 (.int q n)) w K = K (.int .i64 (IntKind.wrap .i64 n)) w := step_run (r_conv u5 u33)
theorem sx_cv5_33 {q : IntKind} {n : Int}  {S : World → Prop} {k : Value → Prop} (hne : ∃ w, S w) : (std Try.prog).stepS S (sConv 5 33 (.int q n)) k = k (.int .i64 (IntKind.wrap .i64 n)) := stepS_run hne fun _ _ => r_conv u5 u33
theorem px_cv5_35 {q : IntKind} {n : Int}  {w : World} {K : Value → World → Prop} : (std Try.prog).step (sConv 5 35 (.int q n)) w K = K (.int .i64 (IntKind.wrap .i64 n)) w := step_run (r_conv u5 u35)
theorem sx_cv5_35 {q : IntKind} {n : Int}  {S : World → Prop} {k : Value → Prop} (hne : ∃ w, S w) : (std Try.prog).stepS S (sConv 5 35 (.int q n)) k = k (.int .i64 (IntKind.wrap .i64 n)) := stepS_run hne fun _ _ => r_conv u5 u35
theorem px_fa111_0 {a : Addr}  {w : World} {K : Value → World → Prop} : (std Try.prog).step (sFieldAddr 111 (.pointer (some a)) 0) w K = K (.pointer (some (a))) w := step_run (rfa111_0)
theorem sx_fa111_0 {a : Addr}  {S : World → Prop} {k : Value → Prop} (hne : ∃ w, S w) : (std Try.prog).stepS S (sFieldAddr 111 (.pointer (some a)) 0) k = k (.pointer (some (a))) := stepS_run hne fun _ _ => rfa111_0
theorem px_fa111_1 {a : Addr}  {w : World} {K : Value → World → Prop} : (std Try.prog).step (sFieldAddr 111 (.pointer (some a)) 1) w K = K (.pointer (some (a.add 1))) w := step_run (rfa111_1)
theorem sx_fa111_1 {a : Addr}  {S : World → Prop} {k : Value → Prop} (hne : ∃ w, S w) : (std Try.prog).stepS S (sFieldAddr 111 (.pointer (some a)) 1) k = k (.pointer (some (a.add 1))) := stepS_run hne fun _ _ => rfa111_1
theorem px_fa127_0 {a : Addr}  {w : World} {K : Value → World → Prop} : (std Try.prog).step (sFieldAddr 127 (.pointer (some a)) 0) w K = K (.pointer (some (a))) w := step_run (rfa127_0)
theorem sx_fa127_0 {a : Addr}  {S : World → Prop} {k : Value → Prop} (hne : ∃ w, S w) : (std Try.prog).stepS S (sFieldAddr 127 (.pointer (some a)) 0) k = k (.pointer (some (a))) := stepS_run hne fun _ _ => rfa127_0
theorem px_fa129_0 {a : Addr}  {w : World} {K : Value → World → Prop} : (std Try.prog).step (sFieldAddr 129 (.pointer (some a)) 0) w K = K (.pointer (some (a))) w := step_run (rfa129_0)
theorem sx_fa129_0 {a : Addr}  {S : World → Prop} {k : Value → Prop} (hne : ∃ w, S w) : (std Try.prog).stepS S (sFieldAddr 129 (.pointer (some a)) 0) k = k (.pointer (some (a))) := stepS_run hne fun _ _ => rfa129_0
theorem px_fa136_0 {a : Addr}  {w : World} {K : Value → World → Prop} : (std Try.prog).step (sFieldAddr 136 (.pointer (some a)) 0) w K = K (.pointer (some (a))) w := step_run (rfa136_0)
theorem sx_fa136_0 {a : Addr}  {S : World → Prop} {k : Value → Prop} (hne : ∃ w, S w) : (std Try.prog).stepS S (sFieldAddr 136 (.pointer (some a)) 0) k = k (.pointer (some (a))) := stepS_run hne fun _ _ => rfa136_0
theorem px_fa136_1 {a : Addr}  {w : World} {K : Value → World → Prop} : (std Try.prog).step (sFieldAddr 136 (.pointer (some a)) 1) w K = K (.pointer (some (a.add 1))) w := step_run (rfa136_1)
theorem sx_fa136_1 {a : Addr}  {S : World → Prop} {k : Value → Prop} (hne : ∃ w, S w) : (std Try.prog).stepS S (sFieldAddr 136 (.pointer (some a)) 1) k = k (.pointer (some (a.add 1))) := stepS_run hne fun _ _ => rfa136_1
theorem px_fa136_2 {a : Addr}  {w : World} {K : Value → World → Prop} : (std Try.prog).step (sFieldAddr 136 (.pointer (some a)) 2) w K = K (.pointer (some (a.add 2))) w := step_run (rfa136_2)
theorem sx_fa136_2 {a : Addr}  {S : World → Prop} {k : Value → Prop} (hne : ∃ w, S w) : (std Try.prog).stepS S (sFieldAddr 136 (.pointer (some a)) 2) k = k (.pointer (some (a.add 2))) := stepS_run hne fun _ _ => rfa136_2
theorem px_fa138_0 {a : Addr}  {w : World} {K : Value → World → Prop} : (std Try.prog).step (sFieldAddr 138 (.pointer (some a)) 0) w K = K (.pointer (some (a))) w := step_run (rfa138_0)
theorem sx_fa138_0 {a : Addr}  {S : World → Prop} {k : Value → Prop} (hne : ∃ w, S w) : (std Try.prog).stepS S (sFieldAddr 138 (.pointer (some a)) 0) k = k (.pointer (some (a))) := stepS_run hne fun _ _ => rfa138_0
theorem px_fa138_1 {a : Addr}  {w : World} {K : Value → World → Prop} : (std Try.prog).step (sFieldAddr 138 (.pointer (some a)) 1) w K = K (.pointer (some (a.add 1))) w := step_run (rfa138_1)
theorem sx_fa138_1 {a : Addr}  {S : World → Prop} {k : Value → Prop} (hne : ∃ w, S w) : (std Try.prog).stepS S (sFieldAddr 138 (.pointer (some a)) 1) k = k (.pointer (some (a.add 1))) := stepS_run hne fun _ _ => rfa138_1
theorem px_fa155_0 {a : Addr}  {w : World} {K : Value → World → Prop} : (std Try.prog).step (sFieldAddr 155 (.pointer (some a)) 0) w K = K (.pointer (some (a))) w := step_run (rfa155_0)
theorem sx_fa155_0 {a : Addr}  {S : World → Prop} {k : Value → Prop} (hne : ∃ w, S w) : (std Try.prog).stepS S (sFieldAddr 155 (.pointer (some a)) 0) k = k (.pointer (some (a))) := stepS_run hne fun _ _ => rfa155_0
theorem px_fa155_1 {a : Addr}  {w : World} {K : Value → World → Prop} : (std Try.prog).step (sFieldAddr 155 (.pointer (some a)) 1) w K = K (.pointer (some (a.add 1))) w := step_run (rfa155_1)
theorem sx_fa155_1 {a : Addr}  {S : World → Prop} {k : Value → Prop} (hne : ∃ w, S w) : (std Try.prog).stepS S (sFieldAddr 155 (.pointer (some a)) 1) k = k (.pointer (some (a.add 1))) := stepS_run hne fun _ _ => rfa155_1
theorem px_fa155_2 {a : Addr}  {w : World} {K : Value → World → Prop} : (std Try.prog).step (sFieldAddr 155 (.pointer (some a)) 2) w K = K (.pointer (some (a.add 2))) w := step_run (rfa155_2)
theorem sx_fa155_2 {a : Addr}  {S : World → Prop} {k : Value → Prop} (hne : ∃ w, S w) : (std Try.prog).stepS S (sFieldAddr 155 (.pointer (some a)) 2) k = k (.pointer (some (a.add 2))) := stepS_run hne fun _ _ => rfa155_2
theorem px_fa163_0 {a : Addr}  {w : World} {K : Value → World → Prop} : (std Try.prog).step (sFieldAddr 163 (.pointer (some a)) 0) w K = K (.pointer (some (a))) w := step_run (rfa163_0)
theorem sx_fa163_0 {a : Addr}  {S : World → Prop} {k : Value → Prop} (hne : ∃ w, S w) : (std Try.prog).stepS S (sFieldAddr 163 (.pointer (some a)) 0) k = k (.pointer (some (a))) := stepS_run hne fun _ _ => rfa163_0
theorem px_fa163_1 {a : Addr}  {w : World} {K : Value → World → Prop} : (std Try.prog).step (sFieldAddr 163 (.pointer (some a)) 1) w K = K (.pointer (some (a.add 1))) w := step_run (rfa163_1)
theorem sx_fa163_1 {a : Addr}  {S : World → Prop} {k : Value → Prop} (hne : ∃ w, S w) : (std Try.prog).stepS S (sFieldAddr 163 (.pointer (some a)) 1) k = k (.pointer (some (a.add 1))) := stepS_run hne fun _ _ => rfa163_1
theorem px_fa166_0 {a : Addr}  {w : World} {K : Value → World → Prop} : (std Try.prog).step (sFieldAddr 166 (.pointer (some a)) 0) w K = K (.pointer (some (a))) w := step_run (rfa166_0)
theorem sx_fa166_0 {a : Addr}  {S : World → Prop} {k : Value → Prop} (hne : ∃ w, S w) : (std Try.prog).stepS S (sFieldAddr 166 (.pointer (some a)) 0) k = k (.pointer (some (a))) := stepS_run hne fun _ _ => rfa166_0
theorem px_fa37_0 {a : Addr}  {w : World} {K : Value → World → Prop} : (std Try.prog).step (sFieldAddr 37 (.pointer (some a)) 0) w K = K (.pointer (some (a))) w := step_run (rfa37_0)
theorem sx_fa37_0 {a : Addr}  {S : World → Prop} {k : Value → Prop} (hne : ∃ w, S w) : (std Try.prog).stepS S (sFieldAddr 37 (.pointer (some a)) 0) k = k (.pointer (some (a))) := stepS_run hne fun _ _ => rfa37_0
theorem px_fa37_1 {a : Addr}  {w : World} {K : Value → World → Prop} : (std Try.prog).step (sFieldAddr 37 (.pointer (some a)) 1) w K = K (.pointer (some (a.add 1))) w := step_run (rfa37_1)
theorem sx_fa37_1 {a : Addr}  {S : World → Prop} {k : Value → Prop} (hne : ∃ w, S w) : (std Try.prog).stepS S (sFieldAddr 37 (.pointer (some a)) 1) k = k (.pointer (some (a.add 1))) := stepS_run hne fun _ _ => rfa37_1
theorem px_fa37_2 {a : Addr}  {w : World} {K : Value → World → Prop} : (std Try.prog).step (sFieldAddr 37 (.pointer (some a)) 2) w K = K (.pointer (some (a.add 2))) w := step_run (rfa37_2)
theorem sx_fa37_2 {a : Addr}  {S : World → Prop} {k : Value → Prop} (hne : ∃ w, S w) : (std Try.prog).stepS S (sFieldAddr 37 (.pointer (some a)) 2) k = k (.pointer (some (a.add 2))) := stepS_run hne fun _ _ => rfa37_2
theorem px_fa37_3 {a : Addr}  {w : World} {K : Value → World → Prop} : (std Try.prog).step (sFieldAddr 37 (.pointer (some a)) 3) w K = K (.pointer (some (a.add 3))) w := step_run (rfa37_3)
theorem sx_fa37_3 {a : Addr}  {S : World → Prop} {k : Value → Prop} (hne : ∃ w, S w) : (std Try.prog).stepS S (sFieldAddr 37 (.pointer (some a)) 3) k = k (.pointer (some (a.add 3))) := stepS_run hne fun _ _ => rfa37_3
theorem px_fa41_0 {a : Addr}  {w : World} {K : Value → World → Prop} : (std Try.prog).step (sFieldAddr 41 (.pointer (some a)) 0) w K = K (.pointer (some (a))) w := step_run (rfa41_0)
theorem sx_fa41_0 {a : Addr}  {S : World → Prop} {k : Value → Prop} (hne : ∃ w, S w) : (std Try.prog).stepS S (sFieldAddr 41 (.pointer (some a)) 0) k = k (.pointer (some (a))) := stepS_run hne fun _ _ => rfa41_0
theorem px_fa41_1 {a : Addr}  {w : World} {K : Value → World → Prop} : (std Try.prog).step (sFieldAddr 41 (.pointer (some a)) 1) w K = K (.pointer (some (a.add 1))) w := step_run (rfa41_1)
theorem sx_fa41_1 {a : Addr}  {S : World → Prop} {k : Value → Prop} (hne : ∃ w, S w) : (std Try.prog).stepS S (sFieldAddr 41 (.pointer (some a)) 1) k = k (.pointer (some (a.add 1))) := stepS_run hne fun _ _ => rfa41_1
theorem px_fa41_2 {a : Addr}  {w : World} {K : Value → World → Prop} : (std Try.prog).step (sFieldAddr 41 (.pointer (some a)) 2) w K = K (.pointer (some (a.add 2))) w := step_run (rfa41_2)
theorem sx_fa41_2 {a : Addr}  {S : World → Prop} {k : Value → Prop} (hne : ∃ w, S w) : (std Try.prog).stepS S (sFieldAddr 41 (.pointer (some a)) 2) k = k (.pointer (some (a.add 2))) := stepS_run hne fun _ _ => rfa41_2
theorem px_fa41_3 {a : Addr}  {w : World} {K : Value → World → Prop} : (std Try.prog).step (sFieldAddr 41 (.pointer (some a)) 3) w K = K (.pointer (some (a.add 3))) w := step_run (rfa41_3)
theorem sx_fa41_3 {a : Addr}  {S : World → Prop} {k : Value → Prop} (hne : ∃ w, S w) : (std Try.prog).stepS S (sFieldAddr 41 (.pointer (some a)) 3) k = k (.pointer (some (a.add 3))) := stepS_run hne fun _ _ => rfa41_3
theorem px_fa41_4 {a : Addr}  {w : World} {K : Value → World → Prop} : (std Try.prog).step (sFieldAddr 41 (.pointer (some a)) 4) w K = K (.pointer (some (a.add 4))) w := step_run (rfa41_4)
theorem sx_fa41_4 {a : Addr}  {S : World → Prop} {k : Value → Prop} (hne : ∃ w, S w) : (std Try.prog).stepS S (sFieldAddr 41 (.pointer (some a)) 4) k = k (.pointer (some (a.add 4))) := stepS_run hne fun _ _ => rfa41_4
theorem px_fa41_5 {a : Addr}  {w : World} {K : Value → World → Prop} : (std Try.prog).step (sFieldAddr 41 (.pointer (some a)) 5) w K = K (.pointer (some (a.add 5))) w := step_run (rfa41_5)
theorem sx_fa41_5 {a : Addr}  {S : World → Prop} {k : Value → Prop} (hne : ∃ w, S w) : (std Try.prog).stepS S (sFieldAddr 41 (.pointer (some a)) 5) k = k (.pointer (some (a.add 5))) := stepS_run hne fun _ _ => rfa41_5
theorem px_fa41_6 {a : Addr}  {w : World} {K : Value → World → Prop} : (std Try.prog).step (sFieldAddr 41 (.pointer (some a)) 6) w K = K (.pointer (some (a.add 6))) w := step_run (rfa41_6)
theorem sx_fa41_6 {a : Addr}  {S : World → Prop} {k : Value → Prop} (hne : ∃ w, S w) : (std Try.prog).stepS S (sFieldAddr 41 (.pointer (some a)) 6) k = k (.pointer (some (a.add 6))) := stepS_run hne fun _ _ => rfa41_6
theorem px_fa41_7 {a : Addr}  {w : World} {K : Value → World → Prop} : (std Try.prog).step (sFieldAddr 41 (.pointer (some a)) 7) w K = K (.pointer (some (a.add 10))) w := step_run (rfa41_7)
theorem sx_fa41_7 {a : Addr}  {S : World → Prop} {k : Value → Prop} (hne : ∃ w, S w) : (std Try.prog).stepS S (sFieldAddr 41 (.pointer (some a)) 7) k = k (.pointer (some (a.add 10))) := stepS_run hne fun _ _ => rfa41_7
theorem px_fa41_8 {a : Addr}  {w : World} {K : Value → World → Prop} : (std Try.prog).step (sFieldAddr 41 (.pointer (some a)) 8) w K = K (.pointer (some (a.add 11))) w := step_run (rfa41_8)
theorem sx_fa41_8 {a : Addr}  {S : World → Prop} {k : Value → Prop} (hne : ∃ w, S w) : (std Try.prog).stepS S (sFieldAddr 41 (.pointer (some a)) 8) k = k (.pointer (some (a.add 11))) := stepS_run hne fun _ _ => rfa41_8
theorem px_fa43_0 {a : Addr}  {w : World} {K : Value → World → Prop} : (std Try.prog).step (sFieldAddr 43 (.pointer (some a)) 0) w K = K (.pointer (some (a))) w := step_run (rfa43_0)
theorem sx_fa43_0 {a : Addr}  {S : World → Prop} {k : Value → Prop} (hne : ∃ w, S w) : (std Try.prog).stepS S (sFieldAddr 43 (.pointer (some a)) 0) k = k (.pointer (some (a))) := stepS_run hne fun _ _ => rfa43_0
theorem px_fa43_1 {a : Addr}  {w : World} {K : Value → World → Prop} : (std Try.prog).step (sFieldAddr 43 (.pointer (some a)) 1) w K = K (.pointer (some (a.add 1))) w := step_run (rfa43_1)
theorem sx_fa43_1 {a : Addr}  {S : World → Prop} {k : Value → Prop} (hne : ∃ w, S w) : (std Try.prog).stepS S (sFieldAddr 43 (.pointer (some a)) 1) k = k (.pointer (some (a.add 1))) := stepS_run hne fun _ _ => rfa43_1
theorem px_fa43_3 {a : Addr}  {w : World} {K : Value → World → Prop} : (std Try.prog).step (sFieldAddr 43 (.pointer (some a)) 3) w K = K (.pointer (some (a.add 3))) w := step_run (rfa43_3)
theorem sx_fa43_3 {a : Addr}  {S : World → Prop} {k : Value → Prop} (hne : ∃ w, S w) : (std Try.prog).stepS S (sFieldAddr 43 (.pointer (some a)) 3) k = k (.pointer (some (a.add 3))) := stepS_run hne fun _ _ => rfa43_3
theorem px_fa53_0 {a : Addr}  {w : World} {K : Value → World → Prop} : (std Try.prog).step (sFieldAddr 53 (.pointer (some a)) 0) w K = K (.pointer (some (a))) w := step_run (rfa53_0)
theorem sx_fa53_0 {a : Addr}  {S : World → Prop} {k : Value → Prop} (hne : ∃ w, S w) : (std Try.prog).stepS S (sFieldAddr 53 (.pointer (some a)) 0) k = k (.pointer (some (a))) := stepS_run hne fun _ _ => rfa53_0
theorem px_fa56_0 {a : Addr}  {w : World} {K : Value → World → Prop} : (std Try.prog).step (sFieldAddr 56 (.pointer (some a)) 0) w K = K (.pointer (some (a))) w := step_run (rfa56_0)
theorem sx_fa56_0 {a : Addr}  {S : World → Prop} {k : Value → Prop} (hne : ∃ w, S w) : (std Try.prog).stepS S (sFieldAddr 56 (.pointer (some a)) 0) k = k (.pointer (some (a))) := stepS_run hne fun _ _ => rfa56_0
theorem px_fa56_1 {a : Addr}  {w : World} {K : Value → World → Prop} : (std Try.prog).step (sFieldAddr 56 (.pointer (some a)) 1) w K = K (.pointer (some (a.add 1))) w := step_run (rfa56_1)
theorem sx_fa56_1 {a : Addr}  {S : World → Prop} {k : Value → Prop} (hne : ∃ w, S w) : (std Try.prog).stepS S (sFieldAddr 56 (.pointer (some a)) 1) k = k (.pointer (some (a.add 1))) := stepS_run hne fun _ _ => rfa56_1
theorem px_fa64_1 {a : Addr}  {w : World} {K : Value → World → Prop} : (std Try.prog).step (sFieldAddr 64 (.pointer (some a)) 1) w K = K (.pointer (some (a.add 1))) w := step_run (rfa64_1)
theorem sx_fa64_1 {a : Addr}  {S : World → Prop} {k : Value → Prop} (hne : ∃ w, S w) : (std Try.prog).stepS S (sFieldAddr 64 (.pointer (some a)) 1) k = k (.pointer (some (a.add 1))) := stepS_run hne fun _ _ => rfa64_1
theorem px_fa64_5 {a : Addr}  {w : World} {K : Value → World → Prop} : (std Try.prog).step (sFieldAddr 64 (.pointer (some a)) 5) w K = K (.pointer (some (a.add 5))) w := step_run (rfa64_5)
theorem sx_fa64_5 {a : Addr}  {S : World → Prop} {k : Value → Prop} (hne : ∃ w, S w) : (std Try.prog).stepS S (sFieldAddr 64 (.pointer (some a)) 5) k = k (.pointer (some (a.add 5))) := stepS_run hne fun _ _ => rfa64_5
theorem px_fa84_0 {a : Addr}  {w : World} {K : Value → World → Prop} : (std Try.prog).step (sFieldAddr 84 (.pointer (some a)) 0) w K = K (.pointer (some (a))) w := step_run (rfa84_0)
theorem sx_fa84_0 {a : Addr}  {S : World → Prop} {k : Value → Prop} (hne : ∃ w, S w) : (std Try.prog).stepS S (sFieldAddr 84 (.pointer (some a)) 0) k = k (.pointer (some (a))) := stepS_run hne fun _ _ => rfa84_0
theorem px_fa84_1 {a : Addr}  {w : World} {K : Value → World → Prop} : (std Try.prog).step (sFieldAddr 84 (.pointer (some a)) 1) w K = K (.pointer (some (a.add 1))) w := step_run (rfa84_1)
theorem sx_fa84_1 {a : Addr}  {S : World → Prop} {k : Value → Prop} (hne : ∃ w, S w) : (std Try.prog).stepS S (sFieldAddr 84 (.pointer (some a)) 1) k = k (.pointer (some (a.add 1))) := stepS_run hne fun _ _ => rfa84_1
theorem px_fa91_0 {a : Addr}  {w : World} {K : Value → World → Prop} : (std Try.prog).step (sFieldAddr 91 (.pointer (some a)) 0) w K = K (.pointer (some (a))) w := step_run (rfa91_0)
theorem sx_fa91_0 {a : Addr}  {S : World → Prop} {k : Value → Prop} (hne : ∃ w, S w) : (std Try.prog).stepS S (sFieldAddr 91 (.pointer (some a)) 0) k = k (.pointer (some (a))) := stepS_run hne fun _ _ => rfa91_0
theorem px_fa91_1 {a : Addr}  {w : World} {K : Value → World → Prop} : (std Try.prog).step (sFieldAddr 91 (.pointer (some a)) 1) w K = K (.pointer (some (a.add 1))) w := step_run (rfa91_1)
theorem sx_fa91_1 {a : Addr}  {S : World → Prop} {k : Value → Prop} (hne : ∃ w, S w) : (std Try.prog).stepS S (sFieldAddr 91 (.pointer (some a)) 1) k = k (.pointer (some (a.add 1))) := stepS_run hne fun _ _ => rfa91_1
theorem px_fa91_2 {a : Addr}  {w : World} {K : Value → World → Prop} : (std Try.prog).step (sFieldAddr 91 (.pointer (some a)) 2) w K = K (.pointer (some (a.add 2))) w := step_run (rfa91_2)
theorem sx_fa91_2 {a : Addr}  {S : World → Prop} {k : Value → Prop} (hne : ∃ w, S w) : (std Try.prog).stepS S (sFieldAddr 91 (.pointer (some a)) 2) k = k (.pointer (some (a.add 2))) := stepS_run hne fun _ _ => rfa91_2
theorem px_fa91_3 {a : Addr}  {w : World} {K : Value → World → Prop} : (std Try.prog).step (sFieldAddr 91 (.pointer (some a)) 3) w K = K (.pointer (some (a.add 3))) w := step_run (rfa91_3)
theorem sx_fa91_3 {a : Addr}  {S : World → Prop} {k : Value → Prop} (hne : ∃ w, S w) : (std Try.prog).stepS S (sFieldAddr 91 (.pointer (some a)) 3) k = k (.pointer (some (a.add 3))) := stepS_run hne fun _ _ => rfa91_3
theorem px_fa91_4 {a : Addr}  {w : World} {K : Value → World → Prop} : (std Try.prog).step (sFieldAddr 91 (.pointer (some a)) 4) w K = K (.pointer (some (a.add 4))) w := step_run (rfa91_4)
theorem sx_fa91_4 {a : Addr}  {S : World → Prop} {k : Value → Prop} (hne : ∃ w, S w) : (std Try.prog).stepS S (sFieldAddr 91 (.pointer (some a)) 4) k = k (.pointer (some (a.add 4))) := stepS_run hne fun _ _ => rfa91_4
theorem px_fa91_5 {a : Addr}  {w : World} {K : Value → World → Prop} : (std Try.prog).step (sFieldAddr 91 (.pointer (some a)) 5) w K = K (.pointer (some (a.add 5))) w := step_run (rfa91_5)
theorem sx_fa91_5 {a : Addr}  {S : World → Prop} {k : Value → Prop} (hne : ∃ w, S w) : (std Try.prog).stepS S (sFieldAddr 91 (.pointer (some a)) 5) k = k (.pointer (some (a.add 5))) := stepS_run hne fun _ _ => rfa91_5
theorem px_fa91_6 {a : Addr}  {w : World} {K : Value → World → Prop} : (std Try.prog).step (sFieldAddr 91 (.pointer (some a)) 6) w K = K (.pointer (some (a.add 6))) w := step_run (rfa91_6)
theorem sx_fa91_6 {a : Addr}  {S : World → Prop} {k : Value → Prop} (hne : ∃ w, S w) : (std Try.prog).stepS S (sFieldAddr 91 (.pointer (some a)) 6) k = k (.pointer (some (a.add 6))) := stepS_run hne fun _ _ => rfa91_6
theorem px_fa91_7 {a : Addr}  {w : World} {K : Value → World → Prop} : (std Try.prog).step (sFieldAddr 91 (.pointer (some a)) 7) w K = K (.pointer (some (a.add 7))) w := step_run (rfa91_7)
theorem sx_fa91_7 {a : Addr}  {S : World → Prop} {k : Value → Prop} (hne : ∃ w, S w) : (std Try.prog).stepS S (sFieldAddr 91 (.pointer (some a)) 7) k = k (.pointer (some (a.add 7))) := stepS_run hne fun _ _ => rfa91_7
theorem px_fa91_8 {a : Addr}  {w : World} {K : Value → World → Prop} : (std Try.prog).step (sFieldAddr 91 (.pointer (some a)) 8) w K = K (.pointer (some (a.add 8))) w := step_run (rfa91_8)
theorem sx_fa91_8 {a : Addr}  {S : World → Prop} {k : Value → Prop} (hne : ∃ w, S w) : (std Try.prog).stepS S (sFieldAddr 91 (.pointer (some a)) 8) k = k (.pointer (some (a.add 8))) := stepS_run hne fun _ _ => rfa91_8
theorem px_fa95_0 {a : Addr}  {w : World} {K : Value → World → Prop} : (std Try.prog).step (sFieldAddr 95 (.pointer (some a)) 0) w K = K (.pointer (some (a))) w := step_run (rfa95_0)
theorem sx_fa95_0 {a : Addr}  {S : World → Prop} {k : Value → Prop} (hne : ∃ w, S w) : (std Try.prog).stepS S (sFieldAddr 95 (.pointer (some a)) 0) k = k (.pointer (some (a))) := stepS_run hne fun _ _ => rfa95_0
theorem px_fa95_1 {a : Addr}  {w : World} {K : Value → World → Prop} : (std Try.prog).step (sFieldAddr 95 (.pointer (some a)) 1) w K = K (.pointer (some (a.add 12))) w := step_run (rfa95_1)
theorem sx_fa95_1 {a : Addr}  {S : World → Prop} {k : Value → Prop} (hne : ∃ w, S w) : (std Try.prog).stepS S (sFieldAddr 95 (.pointer (some a)) 1) k = k (.pointer (some (a.add 12))) := stepS_run hne fun _ _ => rfa95_1
theorem px_xa172 {a : Addr} {i : Nat} (h : i < 16) {w : World} {K : Value → World → Prop} : (std Try.prog).step (sIndexAddr 172 (.pointer (some a)) (.int .i64 (i : Nat))) w K = K (.pointer (some (a.add (i)))) w := step_run (rxa172 h)
theorem sx_xa172 {a : Addr} {i : Nat} (h : i < 16) {S : World → Prop} {k : Value → Prop} (hne : ∃ w, S w) : (std Try.prog).stepS S (sIndexAddr 172 (.pointer (some a)) (.int .i64 (i : Nat))) k = k (.pointer (some (a.add (i)))) := stepS_run hne fun _ _ => rxa172 h
theorem px_ix22 {a : Addr} {n c i : Nat} (h : i < n) {w : World} {K : Value → World → Prop} : (std Try.prog).step (sIndexAddr 22 (.slice (some a) n c) (.int .i64 (i : Nat))) w K = K (.pointer (some (a.add (i * 15)))) w := step_run (rix22 h)
theorem sx_ix22 {a : Addr} {n c i : Nat} (h : i < n) {S : World → Prop} {k : Value → Prop} (hne : ∃ w, S w) : (std Try.prog).stepS S (sIndexAddr 22 (.slice (some a) n c) (.int .i64 (i : Nat))) k = k (.pointer (some (a.add (i * 15)))) := stepS_run hne fun _ _ => rix22 h
theorem px_ix31 {a : Addr} {n c i : Nat} (h : i < n) {w : World} {K : Value → World → Prop} : (std Try.prog).step (sIndexAddr 31 (.slice (some a) n c) (.int .i64 (i : Nat))) w K = K (.pointer (some (a.add (i * 12)))) w := step_run (rix31 h)
theorem sx_ix31 {a : Addr} {n c i : Nat} (h : i < n) {S : World → Prop} {k : Value → Prop} (hne : ∃ w, S w) : (std Try.prog).stepS S (sIndexAddr 31 (.slice (some a) n c) (.int .i64 (i : Nat))) k = k (.pointer (some (a.add (i * 12)))) := stepS_run hne fun _ _ => rix31 h
theorem px_ix38 {a : Addr} {n c i : Nat} (h : i < n) {w : World} {K : Value → World → Prop} : (std Try.prog).step (sIndexAddr 38 (.slice (some a) n c) (.int .i64 (i : Nat))) w K = K (.pointer (some (a.add (i * 3)))) w := step_run (rix38 h)
theorem sx_ix38 {a : Addr} {n c i : Nat} (h : i < n) {S : World → Prop} {k : Value → Prop} (hne : ∃ w, S w) : (std Try.prog).stepS S (sIndexAddr 38 (.slice (some a) n c) (.int .i64 (i : Nat))) k = k (.pointer (some (a.add (i * 3)))) := stepS_run hne fun _ _ => rix38 h
theorem px_ix39 {a : Addr} {n c i : Nat} (h : i < n) {w : World} {K : Value → World → Prop} : (std Try.prog).step (sIndexAddr 39 (.slice (some a) n c) (.int .i64 (i : Nat))) w K = K (.pointer (some (a.add (i * 2)))) w := step_run (rix39 h)
theorem sx_ix39 {a : Addr} {n c i : Nat} (h : i < n) {S : World → Prop} {k : Value → Prop} (hne : ∃ w, S w) : (std Try.prog).stepS S (sIndexAddr 39 (.slice (some a) n c) (.int .i64 (i : Nat))) k = k (.pointer (some (a.add (i * 2)))) := stepS_run hne fun _ _ => rix39 h
theorem px_ix51 {a : Addr} {n c i : Nat} (h : i < n) {w : World} {K : Value → World → Prop} : (std Try.prog).step (sIndexAddr 51 (.slice (some a) n c) (.int .i64 (i : Nat))) w K = K (.pointer (some (a.add (i)))) w := step_run (rix51 h)
theorem sx_ix51 {a : Addr} {n c i : Nat} (h : i < n) {S : World → Prop} {k : Value → Prop} (hne : ∃ w, S w) : (std Try.prog).stepS S (sIndexAddr 51 (.slice (some a) n c) (.int .i64 (i : Nat))) k = k (.pointer (some (a.add (i)))) := stepS_run hne fun _ _ => rix51 h
theorem px_xa54 {a : Addr} {i : Nat} (h : i < 8) {w : World} {K : Value → World → Prop} : (std Try.prog).step (sIndexAddr 54 (.pointer (some a)) (.int .i64 (i : Nat))) w K = K (.pointer (some (a.add (i * 3)))) w := step_run (rxa54 h)
theorem sx_xa54 {a : Addr} {i : Nat} (h : i < 8) {S : World → Prop} {k : Value → Prop} (hne : ∃ w, S w) : (std Try.prog).stepS S (sIndexAddr 54 (.pointer (some a)) (.int .i64 (i : Nat))) k = k (.pointer (some (a.add (i * 3)))) := stepS_run hne fun _ _ => rxa54 h
theorem px_xa82 {a : Addr} {i : Nat} (h : i < 8) {w : World} {K : Value → World → Prop} : (std Try.prog).step (sIndexAddr 82 (.pointer (some a)) (.int .i64 (i : Nat))) w K = K (.pointer (some (a.add (i)))) w := step_run (rxa82 h)
theorem sx_xa82 {a : Addr} {i : Nat} (h : i < 8) {S : World → Prop} {k : Value → Prop} (hne : ∃ w, S w) : (std Try.prog).stepS S (sIndexAddr 82 (.pointer (some a)) (.int .i64 (i : Nat))) k = k (.pointer (some (a.add (i)))) := stepS_run hne fun _ _ => rxa82 h
theorem px_ix87 {a : Addr} {n c i : Nat} (h : i < n) {w : World} {K : Value → World → Prop} : (std Try.prog).step (sIndexAddr 87 (.slice (some a) n c) (.int .i64 (i : Nat))) w K = K (.pointer (some (a.add (i * 13)))) w := step_run (rix87 h)
theorem sx_ix87 {a : Addr} {n c i : Nat} (h : i < n) {S : World → Prop} {k : Value → Prop} (hne : ∃ w, S w) : (std Try.prog).stepS S (sIndexAddr 87 (.slice (some a) n c) (.int .i64 (i : Nat))) k = k (.pointer (some (a.add (i * 13)))) := stepS_run hne fun _ _ => rix87 h
theorem px_ix93 {a : Addr} {n c i : Nat} (h : i < n) {w : World} {K : Value → World → Prop} : (std Try.prog).step (sIndexAddr 93 (.slice (some a) n c) (.int .i64 (i : Nat))) w K = K (.pointer (some (a.add (i)))) w := step_run (rix93 h)
theorem sx_ix93 {a : Addr} {n c i : Nat} (h : i < n) {S : World → Prop} {k : Value → Prop} (hne : ∃ w, S w) : (std Try.prog).stepS S (sIndexAddr 93 (.slice (some a) n c) (.int .i64 (i : Nat))) k = k (.pointer (some (a.add (i)))) := stepS_run hne fun _ _ => rix93 h
/-- the rules for single steps, all at once -/
theorem PX : (∀ {t : TypeId} {x y : Operand} {q : IntKind} {a b : Int}  {w : World} {K : Value → World → Prop}, (std Try.prog).step (sBin .add t x y (.int q a) (.int q b)) w K = K (.int q (q.wrap (a + b))) w) ∧
  (∀ {t : TypeId} {x y : Operand} {q : IntKind} {a b : Int}  {w : World} {K : Value → World → Prop}, (std Try.prog).step (sBin .sub t x y (.int q a) (.int q b)) w K = K (.int q (q.wrap (a - b))) w) ∧
  (∀ {t : TypeId} {x y : Operand} {q : IntKind} {a b : Int}  {w : World} {K : Value → World → Prop}, (std Try.prog).step (sBin .mul t x y (.int q a) (.int q b)) w K = K (.int q (q.wrap (a * b))) w) ∧
  (∀ {t : TypeId} {x y : Operand} {q : IntKind} {a b : Int}  {w : World} {K : Value → World → Prop}, (std Try.prog).step (sBin .and t x y (.int q a) (.int q b)) w K = K (.int q (bitOp .and q a b)) w) ∧
  (∀ {t : TypeId} {x y : Operand} {q : IntKind} {a b : Int}  {w : World} {K : Value → World → Prop}, (std Try.prog).step (sBin .or t x y (.int q a) (.int q b)) w K = K (.int q (bitOp .or q a b)) w) ∧
  (∀ {t : TypeId} {x y : Operand} {q : IntKind} {a b : Int}  {w : World} {K : Value → World → Prop}, (std Try.prog).step (sBin .xor t x y (.int q a) (.int q b)) w K = K (.int q (bitOp .xor q a b)) w) ∧
  (∀ {t : TypeId} {x y : Operand} {q : IntKind} {a b : Int}  {w : World} {K : Value → World → Prop}, (std Try.prog).step (sBin .lss t x y (.int q a) (.int q b)) w K = K (.bool (decide (a < b))) w) ∧
  (∀ {t : TypeId} {x y : Operand} {q : IntKind} {a b : Int}  {w : World} {K : Value → World → Prop}, (std Try.prog).step (sBin .leq t x y (.int q a) (.int q b)) w K = K (.bool (decide (a ≤ b))) w) ∧
  (∀ {t : TypeId} {x y : Operand} {q : IntKind} {a b : Int}  {w : World} {K : Value → World → Prop}, (std Try.prog).step (sBin .gtr t x y (.int q a) (.int q b)) w K = K (.bool (decide (b < a))) w) ∧
  (∀ {t : TypeId} {x y : Operand} {q : IntKind} {a b : Int}  {w : World} {K : Value → World → Prop}, (std Try.prog).step (sBin .geq t x y (.int q a) (.int q b)) w K = K (.bool (decide (b ≤ a))) w) ∧
  (∀ {t : TypeId} {x y : Operand} {q : IntKind} {a b : Int}  {w : World} {K : Value → World → Prop}, (std Try.prog).step (sBin .eql t x y (.int q a) (.int q b)) w K = K (.bool (decide (a = b))) w) ∧
  (∀ {t : TypeId} {x y : Operand} {q : IntKind} {a b : Int}  {w : World} {K : Value → World → Prop}, (std Try.prog).step (sBin .neq t x y (.int q a) (.int q b)) w K = K (.bool (decide (a ≠ b))) w) ∧
  (∀ {t : TypeId} {x y : Operand} {q : IntKind} {a b : Int} (h : b ≠ 0) {w : World} {K : Value → World → Prop}, (std Try.prog).step (sBin .quo t x y (.int q a) (.int q b)) w K = K (.int q (q.wrap (a.tdiv b))) w) ∧
  (∀ {t : TypeId} {x y : Operand} {q : IntKind} {a b : Int} (h : b ≠ 0) {w : World} {K : Value → World → Prop}, (std Try.prog).step (sBin .rem t x y (.int q a) (.int q b)) w K = K (.int q (a.tmod b)) w) ∧
  (∀ {t : TypeId} {x y : Operand} {q q' : IntKind} {a b : Int} (h : ¬ b < 0) {w : World} {K : Value → World → Prop}, (std Try.prog).step (sBin .shl t x y (.int q a) (.int q' b)) w K = K (.int q (q.wrap (a * 2 ^ (min b.toNat q.bits)))) w) ∧
  (∀ {t : TypeId} {x y : Operand} {q q' : IntKind} {a b : Int} (h : ¬ b < 0) {w : World} {K : Value → World → Prop}, (std Try.prog).step (sBin .shr t x y (.int q a) (.int q' b)) w K = K (.int q (a.fdiv (2 ^ (min b.toNat q.bits)))) w) ∧
  (∀ {t : TypeId} {x y : Operand} {a b : ByteArray}  {w : World} {K : Value → World → Prop}, (std Try.prog).step (sBin .eql t x y (.string a) (.string b)) w K = K (.bool (decide (a = b))) w) ∧
  (∀ {t : TypeId} {x y : Operand} {a b : ByteArray}  {w : World} {K : Value → World → Prop}, (std Try.prog).step (sBin .neq t x y (.string a) (.string b)) w K = K (.bool (!decide (a = b))) w) ∧
  (∀ {t : TypeId} {x y : Operand} {a b : ByteArray} (h : a.size + b.size ≤ 9223372036854775807) {w : World} {K : Value → World → Prop}, (std Try.prog).step (sBin .add t x y (.string a) (.string b)) w K = K (.string (a ++ b)) w) ∧
  (∀ {b : Bool}  {w : World} {K : Value → World → Prop}, (std Try.prog).step (sUn .not (.bool b)) w K = K (.bool (!b)) w) ∧
  (∀ {q : IntKind} {a : Int}  {w : World} {K : Value → World → Prop}, (std Try.prog).step (sUn .neg (.int q a)) w K = K (.int q (q.wrap (0 - a))) w) ∧
  (∀ {q : IntKind} {a : Int}  {w : World} {K : Value → World → Prop}, (std Try.prog).step (sUn .xor (.int q a)) w K = K (.int q (bitOp .xor q (if q.signed then -1 else q.max) a)) w) ∧
  (∀ {a : Addr}  {w : World} {K : Value → World → Prop}, (std Try.prog).step (sNil (.pointer (some a))) w K = K (.pointer (some a)) w) ∧
  (∀ {a b : Value}  {w : World} {K : Value → World → Prop}, (std Try.prog).step (sExtract (.tuple #[a, b]) 0) w K = K (a) w) ∧
  (∀ {a b : Value}  {w : World} {K : Value → World → Prop}, (std Try.prog).step (sExtract (.tuple #[a, b]) 1) w K = K (b) w) ∧
  (∀ {a b c : Value}  {w : World} {K : Value → World → Prop}, (std Try.prog).step (sExtract (.tuple #[a, b, c]) 0) w K = K (a) w) ∧
  (∀ {a b c : Value}  {w : World} {K : Value → World → Prop}, (std Try.prog).step (sExtract (.tuple #[a, b, c]) 1) w K = K (b) w) ∧
  (∀ {a b c : Value}  {w : World} {K : Value → World → Prop}, (std Try.prog).step (sExtract (.tuple #[a, b, c]) 2) w K = K (c) w) ∧
  (∀ {ats : Array TypeId} {ty : TypeId} {c : List Bool} {q : IntKind} {a b : Int}  {w : World} {K : Value → World → Prop}, (std Try.prog).step (sBuiltin .min ats ty c [.int q a, .int q b]) w K = K (.int q (if b < a then b else a)) w) ∧
  (∀ {ats : Array TypeId} {ty : TypeId} {c : List Bool} {q : IntKind} {a b : Int}  {w : World} {K : Value → World → Prop}, (std Try.prog).step (sBuiltin .max ats ty c [.int q a, .int q b]) w K = K (.int q (if a < b then b else a)) w) ∧
  (∀ {x y : Operand} {a : Addr}  {w : World} {K : Value → World → Prop}, (std Try.prog).step (sBin .eql 101 x y (.pointer (some a)) (.pointer none)) w K = K (.bool false) w) ∧
  (∀ {x y : Operand}  {w : World} {K : Value → World → Prop}, (std Try.prog).step (sBin .eql 101 x y (.pointer none) (.pointer none)) w K = K (.bool true) w) ∧
  (∀ {x y : Operand} {a : Addr}  {w : World} {K : Value → World → Prop}, (std Try.prog).step (sBin .eql 146 x y (.pointer (some a)) (.pointer none)) w K = K (.bool false) w) ∧
  (∀ {x y : Operand}  {w : World} {K : Value → World → Prop}, (std Try.prog).step (sBin .eql 146 x y (.pointer none) (.pointer none)) w K = K (.bool true) w) ∧
  (∀ {x y : Operand} {a : Addr}  {w : World} {K : Value → World → Prop}, (std Try.prog).step (sBin .eql 23 x y (.pointer (some a)) (.pointer none)) w K = K (.bool false) w) ∧
  (∀ {x y : Operand}  {w : World} {K : Value → World → Prop}, (std Try.prog).step (sBin .eql 23 x y (.pointer none) (.pointer none)) w K = K (.bool true) w) ∧
  (∀ {x y : Operand} {a : Addr}  {w : World} {K : Value → World → Prop}, (std Try.prog).step (sBin .eql 28 x y (.pointer (some a)) (.pointer none)) w K = K (.bool false) w) ∧
  (∀ {x y : Operand}  {w : World} {K : Value → World → Prop}, (std Try.prog).step (sBin .eql 28 x y (.pointer none) (.pointer none)) w K = K (.bool true) w) ∧
  (∀ {x y : Operand} {a b : Bool}  {w : World} {K : Value → World → Prop}, (std Try.prog).step (sBin .eql 4 x y (.bool a) (.bool b)) w K = K (.bool (a == b)) w) ∧
  (∀ {x y : Operand} {a : Addr}  {w : World} {K : Value → World → Prop}, (std Try.prog).step (sBin .eql 81 x y (.pointer (some a)) (.pointer none)) w K = K (.bool false) w) ∧
  (∀ {x y : Operand}  {w : World} {K : Value → World → Prop}, (std Try.prog).step (sBin .eql 81 x y (.pointer none) (.pointer none)) w K = K (.bool true) w) ∧
  (∀ {x y : Operand} {a : Addr}  {w : World} {K : Value → World → Prop}, (std Try.prog).step (sBin .neq 23 x y (.pointer (some a)) (.pointer none)) w K = K (.bool true) w) ∧
  (∀ {x y : Operand}  {w : World} {K : Value → World → Prop}, (std Try.prog).step (sBin .neq 23 x y (.pointer none) (.pointer none)) w K = K (.bool false) w) ∧
  (∀ {x y : Operand} {a : Addr}  {w : World} {K : Value → World → Prop}, (std Try.prog).step (sBin .neq 28 x y (.pointer (some a)) (.pointer none)) w K = K (.bool true) w) ∧
  (∀ {x y : Operand}  {w : World} {K : Value → World → Prop}, (std Try.prog).step (sBin .neq 28 x y (.pointer none) (.pointer none)) w K = K (.bool false) w) ∧
  (∀ {x y : Operand} {a b : Bool}  {w : World} {K : Value → World → Prop}, (std Try.prog).step (sBin .neq 4 x y (.bool a) (.bool b)) w K = K (.bool (!(a == b))) w) ∧
  (∀ {x y : Operand} {a : Addr}  {w : World} {K : Value → World → Prop}, (std Try.prog).step (sBin .neq 81 x y (.pointer (some a)) (.pointer none)) w K = K (.bool true) w) ∧
  (∀ {x y : Operand}  {w : World} {K : Value → World → Prop}, (std Try.prog).step (sBin .neq 81 x y (.pointer none) (.pointer none)) w K = K (.bool false) w) ∧
  (∀ {ty : TypeId} {c : List Bool} {A : Option Addr} {n m : Nat}  {w : World} {K : Value → World → Prop}, (std Try.prog).step (sBuiltin .len #[22] ty c [.slice A n m]) w K = K (.int .i64 n) w) ∧
  (∀ {ty : TypeId} {c : List Bool} {A : Option Addr} {n m : Nat}  {w : World} {K : Value → World → Prop}, (std Try.prog).step (sBuiltin .len #[31] ty c [.slice A n m]) w K = K (.int .i64 n) w) ∧
  (∀ {ty : TypeId} {c : List Bool} {A : Option Addr} {n m : Nat}  {w : World} {K : Value → World → Prop}, (std Try.prog).step (sBuiltin .len #[38] ty c [.slice A n m]) w K = K (.int .i64 n) w) ∧
  (∀ {ty : TypeId} {c : List Bool} {A : Option Addr} {n m : Nat}  {w : World} {K : Value → World → Prop}, (std Try.prog).step (sBuiltin .len #[39] ty c [.slice A n m]) w K = K (.int .i64 n) w) ∧
  (∀ {ty : TypeId} {c : List Bool} {A : Option Addr} {n m : Nat}  {w : World} {K : Value → World → Prop}, (std Try.prog).step (sBuiltin .len #[51] ty c [.slice A n m]) w K = K (.int .i64 n) w) ∧
  (∀ {ty : TypeId} {c : List Bool} {A : Option Addr} {n m : Nat}  {w : World} {K : Value → World → Prop}, (std Try.prog).step (sBuiltin .len #[87] ty c [.slice A n m]) w K = K (.int .i64 n) w) ∧
  (∀ {ty : TypeId} {c : List Bool} {s : ByteArray}  {w : World} {K : Value → World → Prop}, (std Try.prog).step (sBuiltin .len #[9] ty c [.string s]) w K = K (.int .i64 s.size) w) ∧
  (∀ {ty : TypeId} {c : List Bool} {A : Option Addr} {n m : Nat}  {w : World} {K : Value → World → Prop}, (std Try.prog).step (sBuiltin .len #[93] ty c [.slice A n m]) w K = K (.int .i64 n) w) ∧
  (∀ {q : IntKind} {n : Int}  {w : World} {K : Value → World → Prop}, (std Try.prog).step (sConv 104 3 (.int q n)) w K = K (.int .i64 (IntKind.wrap .i64 n)) w) ∧
  (∀ {q : IntKind} {n : Int}  {w : World} {K : Value → World → Prop}, (std Try.prog).step (sConv 104 32 (.int q n)) w K = K (.int .u64 (IntKind.wrap .u64 n)) w) ∧
  (∀ {q : IntKind} {n : Int}  {w : World} {K : Value → World → Prop}, (std Try.prog).step (sConv 104 5 (.int q n)) w K = K (.int .u8 (IntKind.wrap .u8 n)) w) ∧
  (∀ {q : IntKind} {n : Int}  {w : World} {K : Value → World → Prop}, (std Try.prog).step (sConv 132 3 (.int q n)) w K = K (.int .i64 (IntKind.wrap .i64 n)) w) ∧
  (∀ {q : IntKind} {n : Int}  {w : World} {K : Value → World → Prop}, (std Try.prog).step (sConv 134 32 (.int q n)) w K = K (.int .u64 (IntKind.wrap .u64 n)) w) ∧
  (∀ {q : IntKind} {n : Int}  {w : World} {K : Value → World → Prop}, (std Try.prog).step (sConv 134 5 (.int q n)) w K = K (.int .u8 (IntKind.wrap .u8 n)) w) ∧
  (∀ {q : IntKind} {n : Int}  {w : World} {K : Value → World → Prop}, (std Try.prog).step (sConv 149 3 (.int q n)) w K = K (.int .i64 (IntKind.wrap .i64 n)) w) ∧
  (∀ {q : IntKind} {n : Int}  {w : World} {K : Value → World → Prop}, (std Try.prog).step (sConv 149 32 (.int q n)) w K = K (.int .u64 (IntKind.wrap .u64 n)) w) ∧
  (∀ {q : IntKind} {n : Int}  {w : World} {K : Value → World → Prop}, (std Try.prog).step (sConv 3 104 (.int q n)) w K = K (.int .u32 (IntKind.wrap .u32 n)) w) ∧
  (∀ {q : IntKind} {n : Int}  {w : World} {K : Value → World → Prop}, (std Try.prog).step (sConv 3 132 (.int q n)) w K = K (.int .u64 (IntKind.wrap .u64 n)) w) ∧
  (∀ {q : IntKind} {n : Int}  {w : World} {K : Value → World → Prop}, (std Try.prog).step (sConv 3 149 (.int q n)) w K = K (.int .u16 (IntKind.wrap .u16 n)) w) ∧
  (∀ {q : IntKind} {n : Int}  {w : World} {K : Value → World → Prop}, (std Try.prog).step (sConv 3 32 (.int q n)) w K = K (.int .u64 (IntKind.wrap .u64 n)) w) ∧
  (∀ {q : IntKind} {n : Int}  {w : World} {K : Value → World → Prop}, (std Try.prog).step (sConv 3 5 (.int q n)) w K = K (.int .u8 (IntKind.wrap .u8 n)) w) ∧
  (∀ {q : IntKind} {n : Int}  {w : World} {K : Value → World → Prop}, (std Try.prog).step (sConv 32 104 (.int q n)) w K = K (.int .u32 (IntKind.wrap .u32 n)) w) ∧
  (∀ {q : IntKind} {n : Int}  {w : World} {K : Value → World → Prop}, (std Try.prog).step (sConv 32 134 (.int q n)) w K = K (.int .i64 (IntKind.wrap .i64 n)) w) ∧
  (∀ {q : IntKind} {n : Int}  {w : World} {K : Value → World → Prop}, (std Try.prog).step (sConv 32 149 (.int q n)) w K = K (.int .u16 (IntKind.wrap .u16 n)) w) ∧
  (∀ {q : IntKind} {n : Int}  {w : World} {K : Value → World → Prop}, (std Try.prog).step (sConv 32 3 (.int q n)) w K = K (.int .i64 (IntKind.wrap .i64 n)) w) ∧
  (∀ {q : IntKind} {n : Int}  {w : World} {K : Value → World → Prop}, (std Try.prog).step (sConv 32 33 (.int q n)) w K = K (.int .i64 (IntKind.wrap .i64 n)) w) ∧
  (∀ {q : IntKind} {n : Int}  {w : World} {K : Value → World → Prop}, (std Try.prog).step (sConv 32 35 (.int q n)) w K = K (.int .i64 (IntKind.wrap .i64 n)) w) ∧
  (∀ {q : IntKind} {n : Int}  {w : World} {K : Value → World → Prop}, (std Try.prog).step (sConv 32 5 (.int q n)) w K = K (.int .u8 (IntKind.wrap .u8 n)) w) ∧
  (∀ {q : IntKind} {n : Int}  {w : World} {K : Value → World → Prop}, (std Try.prog).step (sConv 33 32 (.int q n)) w K = K (.int .u64 (IntKind.wrap .u64 n)) w) ∧
  (∀ {q : IntKind} {n : Int}  {w : World} {K : Value → World → Prop}, (std Try.prog).step (sConv 33 5 (.int q n)) w K = K (.int .u8 (IntKind.wrap .u8 n)) w) ∧
  (∀ {q : IntKind} {n : Int}  {w : World} {K : Value → World → Prop}, (std Try.prog).step (sConv 35 32 (.int q n)) w K = K (.int .u64 (IntKind.wrap .u64 n)) w) ∧
  (∀ {q : IntKind} {n : Int}  {w : World} {K : Value → World → Prop}, (std Try.prog).step (sConv 35 5 (.int q n)) w K = K (.int .u8 (IntKind.wrap .u8 n)) w) ∧
  (∀ {q : IntKind} {n : Int}  {w : World} {K : Value → World → Prop}, (std Try.prog).step (sConv 5 104 (.int q n)) w K = K (.int .u32 (IntKind.wrap .u32 n)) w) ∧
  (∀ {q : IntKind} {n : Int}  {w : World} {K : Value → World → Prop}, (std Try.prog).step (sConv 5 134 (.int q n)) w K = K (.int .i64 (IntKind.wrap .i64 n)) w) ∧
  (∀ {q : IntKind} {n : Int}  {w : World} {K : Value → World → Prop}, (std Try.prog).step (sConv 5 3 (.int q n)) w K = K (.int .i64 (IntKind.wrap .i64 n)) w) ∧
  (∀ {q : IntKind} {n : Int}  {w : World} {K : Value → World → Prop}, (std Try.prog).step (sConv 5 32 (.int q n)) w K = K (.int .u64 (IntKind.wrap .u64 n)) w) ∧
  (∀ {q : IntKind} {n : Int}  {w : World} {K : Value → World → Prop}, (std Try.prog).step (sConv 5 33 (.int q n)) w K = K (.int .i64 (IntKind.wrap .i64 n)) w) ∧
  (∀ {q : IntKind} {n : Int}  {w : World} {K : Value → World → Prop}, (std Try.prog).step (sConv 5 35 (.int q n)) w K = K (.int .i64 (IntKind.wrap .i64 n)) w) ∧
  (∀ {a : Addr}  {w : World} {K : Value → World → Prop}, (std Try.prog).step (sFieldAddr 111 (.pointer (some a)) 0) w K = K (.pointer (some (a))) w) ∧
  (∀ {a : Addr}  {w : World} {K : Value → World → Prop}, (std Try.prog).step (sFieldAddr 111 (.pointer (some a)) 1) w K = K (.pointer (some (a.add 1))) w) ∧
  (∀ {a : Addr}  {w : World} {K : Value → World → Prop}, (std Try.prog).step (sFieldAddr 127 (.pointer (some a)) 0) w K = K (.pointer (some (a))) w) ∧
  (∀ {a : Addr}  {w : World} {K : Value → World → Prop}, (std Try.prog).step (sFieldAddr 129 (.pointer (some a)) 0) w K = K (.pointer (some (a))) w) ∧
  (∀ {a : Addr}  {w : World} {K : Value → World → Prop}, (std Try.prog).step (sFieldAddr 136 (.pointer (some a)) 0) w K = K (.pointer (some (a))) w) ∧
  (∀ {a : Addr}  {w : World} {K : Value → World → Prop}, (std Try.prog).step (sFieldAddr 136 (.pointer (some a)) 1) w K = K (.pointer (some (a.add 1))) w) ∧
  (∀ {a : Addr}  {w : World} {K : Value → World → Prop}, (std Try.prog).step (sFieldAddr 136 (.pointer (some a)) 2) w K = K (.pointer (some (a.add 2))) w) ∧
  (∀ {a : Addr}  {w : World} {K : Value → World → Prop}, (std Try.prog).step (sFieldAddr 138 (.pointer (some a)) 0) w K = K (.pointer (some (a))) w) ∧
  (∀ {a : Addr}  {w : World} {K : Value → World → Prop}, (std Try.prog).step (sFieldAddr 138 (.pointer (some a)) 1) w K = K (.pointer (some (a.add 1))) w) ∧
  (∀ {a : Addr}  {w : World} {K : Value → World → Prop}, (std Try.prog).step (sFieldAddr 155 (.pointer (some a)) 0) w K = K (.pointer (some (a))) w) ∧
  (∀ {a : Addr}  {w : World} {K : Value → World → Prop}, (std Try.prog).step (sFieldAddr 155 (.pointer (some a)) 1) w K = K (.pointer (some (a.add 1))) w) ∧
  (∀ {a : Addr}  {w : World} {K : Value → World → Prop}, (std Try.prog).step (sFieldAddr 155 (.pointer (some a)) 2) w K = K (.pointer (some (a.add 2))) w) ∧
  (∀ {a : Addr}  {w : World} {K : Value → World → Prop}, (std Try.prog).step (sFieldAddr 163 (.pointer (some a)) 0) w K = K (.pointer (some (a))) w) ∧
  (∀ {a : Addr}  {w : World} {K : Value → World → Prop}, (std Try.prog).step (sFieldAddr 163 (.pointer (some a)) 1) w K = K (.pointer (some (a.add 1))) w) ∧
  (∀ {a : Addr}  {w : World} {K : Value → World → Prop}, (std Try.prog).step (sFieldAddr 166 (.pointer (some a)) 0) w K = K (.pointer (some (a))) w) ∧
  (∀ {a : Addr}  {w : World} {K : Value → World → Prop}, (std Try.prog).step (sFieldAddr 37 (.pointer (some a)) 0) w K = K (.pointer (some (a))) w) ∧
  (∀ {a : Addr}  {w : World} {K : Value → World → Prop}, (std Try.prog).step (sFieldAddr 37 (.pointer (some a)) 1) w K = K (.pointer (some (a.add 1))) w) ∧
  (∀ {a : Addr}  {w : World} {K : Value → World → Prop}, (std Try.prog).step (sFieldAddr 37 (.pointer (some a)) 2) w K = K (.pointer (some (a.add 2))) w) ∧
  (∀ {a : Addr}  {w : World} {K : Value → World → Prop}, (std Try.prog).step (sFieldAddr 37 (.pointer (some a)) 3) w K = K (.pointer (some (a.add 3))) w) ∧
  (∀ {a : Addr}  {w : World} {K : Value → World → Prop}, (std Try.prog).step (sFieldAddr 41 (.pointer (some a)) 0) w K = K (.pointer (some (a))) w) ∧
  (∀ {a : Addr}  {w : World} {K : Value → World → Prop}, (std Try.prog).step (sFieldAddr 41 (.pointer (some a)) 1) w K = K (.pointer (some (a.add 1))) w) ∧
  (∀ {a : Addr}  {w : World} {K : Value → World → Prop}, (std Try.prog).step (sFieldAddr 41 (.pointer (some a)) 2) w K = K (.pointer (some (a.add 2))) w) ∧
  (∀ {a : Addr}  {w : World} {K : Value → World → Prop}, (std Try.prog).step (sFieldAddr 41 (.pointer (some a)) 3) w K = K (.pointer (some (a.add 3))) w) ∧
  (∀ {a : Addr}  {w : World} {K : Value → World → Prop}, (std Try.prog).step (sFieldAddr 41 (.pointer (some a)) 4) w K = K (.pointer (some (a.add 4))) w) ∧
  (∀ {a : Addr}  {w : World} {K : Value → World → Prop}, (std Try.prog).step (sFieldAddr 41 (.pointer (some a)) 5) w K = K (.pointer (some (a.add 5))) w) ∧
  (∀ {a : Addr}  {w : World} {K : Value → World → Prop}, (std Try.prog).step (sFieldAddr 41 (.pointer (some a)) 6) w K = K (.pointer (some (a.add 6))) w) ∧
  (∀ {a : Addr}  {w : World} {K : Value → World → Prop}, (std Try.prog).step (sFieldAddr 41 (.pointer (some a)) 7) w K = K (.pointer (some (a.add 10))) w) ∧
  (∀ {a : Addr}  {w : World} {K : Value → World → Prop}, (std Try.prog).step (sFieldAddr 41 (.pointer (some a)) 8) w K = K (.pointer (some (a.add 11))) w) ∧
  (∀ {a : Addr}  {w : World} {K : Value → World → Prop}, (std Try.prog).step (sFieldAddr 43 (.pointer (some a)) 0) w K = K (.pointer (some (a))) w) ∧
  (∀ {a : Addr}  {w : World} {K : Value → World → Prop}, (std Try.prog).step (sFieldAddr 43 (.pointer (some a)) 1) w K = K (.pointer (some (a.add 1))) w) ∧
  (∀ {a : Addr}  {w : World} {K : Value → World → Prop}, (std Try.prog).step (sFieldAddr 43 (.pointer (some a)) 3) w K = K (.pointer (some (a.add 3))) w) ∧
  (∀ {a : Addr}  {w : World} {K : Value → World → Prop}, (std Try.prog).step (sFieldAddr 53 (.pointer (some a)) 0) w K = K (.pointer (some (a))) w) ∧
  (∀ {a : Addr}  {w : World} {K : Value → World → Prop}, (std Try.prog).step (sFieldAddr 56 (.pointer (some a)) 0) w K = K (.pointer (some (a))) w) ∧
  (∀ {a : Addr}  {w : World} {K : Value → World → Prop}, (std Try.prog).step (sFieldAddr 56 (.pointer (some a)) 1) w K = K (.pointer (some (a.add 1))) w) ∧
  (∀ {a : Addr}  {w : World} {K : Value → World → Prop}, (std Try.prog).step (sFieldAddr 64 (.pointer (some a)) 1) w K = K (.pointer (some (a.add 1))) w) ∧
  (∀ {a : Addr}  {w : World} {K : Value → World → Prop}, (std Try.prog).step (sFieldAddr 64 (.pointer (some a)) 5) w K = K (.pointer (some (a.add 5))) w) ∧
  (∀ {a : Addr}  {w : World} {K : Value → World → Prop}, (std Try.prog).step (sFieldAddr 84 (.pointer (some a)) 0) w K = K (.pointer (some (a))) w) ∧
  (∀ {a : Addr}  {w : World} {K : Value → World → Prop}, (std Try.prog).step (sFieldAddr 84 (.pointer (some a)) 1) w K = K (.pointer (some (a.add 1))) w) ∧
  (∀ {a : Addr}  {w : World} {K : Value → World → Prop}, (std Try.prog).step (sFieldAddr 91 (.pointer (some a)) 0) w K = K (.pointer (some (a))) w) ∧
  (∀ {a : Addr}  {w : World} {K : Value → World → Prop}, (std Try.prog).step (sFieldAddr 91 (.pointer (some a)) 1) w K = K (.pointer (some (a.add 1))) w) ∧
  (∀ {a : Addr}  {w : World} {K : Value → World → Prop}, (std Try.prog).step (sFieldAddr 91 (.pointer (some a)) 2) w K = K (.pointer (some (a.add 2))) w) ∧
  (∀ {a : Addr}  {w : World} {K : Value → World → Prop}, (std Try.prog).step (sFieldAddr 91 (.pointer (some a)) 3) w K = K (.pointer (some (a.add 3))) w) ∧
  (∀ {a : Addr}  {w : World} {K : Value → World → Prop}, (std Try.prog).step (sFieldAddr 91 (.pointer (some a)) 4) w K = K (.pointer (some (a.add 4))) w) ∧
  (∀ {a : Addr}  {w : World} {K : Value → World → Prop}, (std Try.prog).step (sFieldAddr 91 (.pointer (some a)) 5) w K = K (.pointer (some (a.add 5))) w) ∧
  (∀ {a : Addr}  {w : World} {K : Value → World → Prop}, (std Try.prog).step (sFieldAddr 91 (.pointer (some a)) 6) w K = K (.pointer (some (a.add 6))) w) ∧
  (∀ {a : Addr}  {w : World} {K : Value → World → Prop}, (std Try.prog).step (sFieldAddr 91 (.pointer (some a)) 7) w K = K (.pointer (some (a.add 7))) w) ∧
  (∀ {a : Addr}  {w : World} {K : Value → World → Prop}, (std Try.prog).step (sFieldAddr 91 (.pointer (some a)) 8) w K = K (.pointer (some (a.add 8))) w) ∧
  (∀ {a : Addr}  {w : World} {K : Value → World → Prop}, (std Try.prog).step (sFieldAddr 95 (.pointer (some a)) 0) w K = K (.pointer (some (a))) w) ∧
  (∀ {a : Addr}  {w : World} {K : Value → World → Prop}, (std Try.prog).step (sFieldAddr 95 (.pointer (some a)) 1) w K = K (.pointer (some (a.add 12))) w) ∧
  (∀ {a : Addr} {i : Nat} (h : i < 16) {w : World} {K : Value → World → Prop}, (std Try.prog).step (sIndexAddr 172 (.pointer (some a)) (.int .i64 (i : Nat))) w K = K (.pointer (some (a.add (i)))) w) ∧
  (∀ {a : Addr} {n c i : Nat} (h : i < n) {w : World} {K : Value → World → Prop}, (std Try.prog).step (sIndexAddr 22 (.slice (some a) n c) (.int .i64 (i : Nat))) w K = K (.pointer (some (a.add (i * 15)))) w) ∧
  (∀ {a : Addr} {n c i : Nat} (h : i < n) {w : World} {K : Value → World → Prop}, (std Try.prog).step (sIndexAddr 31 (.slice (some a) n c) (.int .i64 (i : Nat))) w K = K (.pointer (some (a.add (i * 12)))) w) ∧
  (∀ {a : Addr} {n c i : Nat} (h : i < n) {w : World} {K : Value → World → Prop}, (std Try.prog).step (sIndexAddr 38 (.slice (some a) n c) (.int .i64 (i : Nat))) w K = K (.pointer (some (a.add (i * 3)))) w) ∧
  (∀ {a : Addr} {n c i : Nat} (h : i < n) {w : World} {K : Value → World → Prop}, (std Try.prog).step (sIndexAddr 39 (.slice (some a) n c) (.int .i64 (i : Nat))) w K = K (.pointer (some (a.add (i * 2)))) w) ∧
  (∀ {a : Addr} {n c i : Nat} (h : i < n) {w : World} {K : Value → World → Prop}, (std Try.prog).step (sIndexAddr 51 (.slice (some a) n c) (.int .i64 (i : Nat))) w K = K (.pointer (some (a.add (i)))) w) ∧
  (∀ {a : Addr} {i : Nat} (h : i < 8) {w : World} {K : Value → World → Prop}, (std Try.prog).step (sIndexAddr 54 (.pointer (some a)) (.int .i64 (i : Nat))) w K = K (.pointer (some (a.add (i * 3)))) w) ∧
  (∀ {a : Addr} {i : Nat} (h : i < 8) {w : World} {K : Value → World → Prop}, (std Try.prog).step (sIndexAddr 82 (.pointer (some a)) (.int .i64 (i : Nat))) w K = K (.pointer (some (a.add (i)))) w) ∧
  (∀ {a : Addr} {n c i : Nat} (h : i < n) {w : World} {K : Value → World → Prop}, (std Try.prog).step (sIndexAddr 87 (.slice (some a) n c) (.int .i64 (i : Nat))) w K = K (.pointer (some (a.add (i * 13)))) w) ∧
  (∀ {a : Addr} {n c i : Nat} (h : i < n) {w : World} {K : Value → World → Prop}, (std Try.prog).step (sIndexAddr 93 (.slice (some a) n c) (.int .i64 (i : Nat))) w K = K (.pointer (some (a.add (i)))) w) := ⟨@px_add, @px_sub, @px_mul, @px_and, @px_or, @px_xor, @px_lss, @px_leq, @px_gtr, @px_geq, @px_eql, @px_neq, @px_quo, @px_rem, @px_shl, @px_shr, @px_seql, @px_sneq, @px_sadd, @px_not, @px_neg, @px_inv, @px_nilc, @px_ext20, @px_ext21, @px_ext30, @px_ext31, @px_ext32, @px_min, @px_max, @px_peql101, @px_neql101, @px_peql146, @px_neql146, @px_peql23, @px_neql23, @px_peql28, @px_neql28, @px_beql4, @px_peql81, @px_neql81, @px_pneq23, @px_nneq23, @px_pneq28, @px_nneq28, @px_bneq4, @px_pneq81, @px_nneq81, @px_len22, @px_len31, @px_len38, @px_len39, @px_len51, @px_len87, @px_len9, @px_len93, @px_cv104_3, @px_cv104_32, @px_cv104_5, @px_cv132_3, @px_cv134_32, @px_cv134_5, @px_cv149_3, @px_cv149_32, @px_cv3_104, @px_cv3_132, @px_cv3_149, @px_cv3_32, @px_cv3_5, @px_cv32_104, @px_cv32_134, @px_cv32_149, @px_cv32_3, @px_cv32_33, @px_cv32_35, @px_cv32_5, @px_cv33_32, @px_cv33_5, @px_cv35_32, @px_cv35_5, @px_cv5_104, @px_cv5_134, @px_cv5_3, @px_cv5_32, @px_cv5_33, @px_cv5_35, @px_fa111_0, @px_fa111_1, @px_fa127_0, @px_fa129_0, @px_fa136_0, @px_fa136_1, @px_fa136_2, @px_fa138_0, @px_fa138_1, @px_fa155_0, @px_fa155_1, @px_fa155_2, @px_fa163_0, @px_fa163_1, @px_fa166_0, @px_fa37_0, @px_fa37_1, @px_fa37_2, @px_fa37_3, @px_fa41_0, @px_fa41_1, @px_fa41_2, @px_fa41_3, @px_fa41_4, @px_fa41_5, @px_fa41_6, @px_fa41_7, @px_fa41_8, @px_fa43_0, @px_fa43_1, @px_fa43_3, @px_fa53_0, @px_fa56_0, @px_fa56_1, @px_fa64_1, @px_fa64_5, @px_fa84_0, @px_fa84_1, @px_fa91_0, @px_fa91_1, @px_fa91_2, @px_fa91_3, @px_fa91_4, @px_fa91_5, @px_fa91_6, @px_fa91_7, @px_fa91_8, @px_fa95_0, @px_fa95_1, @px_xa172, @px_ix22, @px_ix31, @px_ix38, @px_ix39, @px_ix51, @px_xa54, @px_xa82, @px_ix87, @px_ix93⟩
theorem SX : (∀ {t : TypeId} {x y : Operand} {q : IntKind} {a b : Int}  {S : World → Prop} {k : Value → Prop} (hne : ∃ w, S w), (std Try.prog).stepS S (sBin .add t x y (.int q a) (.int q b)) k = k (.int q (q.wrap (a + b)))) ∧
  (∀ {t : TypeId} {x y : Operand} {q : IntKind} {a b : Int}  {S : World → Prop} {k : Value → Prop} (hne : ∃ w, S w), (std Try.prog).stepS S (sBin .sub t x y (.int q a) (.int q b)) k = k (.int q (q.wrap (a - b)))) ∧
  (∀ {t : TypeId} {x y : Operand} {q : IntKind} {a b : Int}  {S : World → Prop} {k : Value → Prop} (hne : ∃ w, S w), (std Try.prog).stepS S (sBin .mul t x y (.int q a) (.int q b)) k = k (.int q (q.wrap (a * b)))) ∧
  (∀ {t : TypeId} {x y : Operand} {q : IntKind} {a b : Int}  {S : World → Prop} {k : Value → Prop} (hne : ∃ w, S w), (std Try.prog).stepS S (sBin .and t x y (.int q a) (.int q b)) k = k (.int q (bitOp .and q a b))) ∧
  (∀ {t : TypeId} {x y : Operand} {q : IntKind} {a b : Int}  {S : World → Prop} {k : Value → Prop} (hne : ∃ w, S w), (std Try.prog).stepS S (sBin .or t x y (.int q a) (.int q b)) k = k (.int q (bitOp .or q a b))) ∧
  (∀ {t : TypeId} {x y : Operand} {q : IntKind} {a b : Int}  {S : World → Prop} {k : Value → Prop} (hne : ∃ w, S w), (std Try.prog).stepS S (sBin .xor t x y (.int q a) (.int q b)) k = k (.int q (bitOp .xor q a b))) ∧
  (∀ {t : TypeId} {x y : Operand} {q : IntKind} {a b : Int}  {S : World → Prop} {k : Value → Prop} (hne : ∃ w, S w), (std Try.prog).stepS S (sBin .lss t x y (.int q a) (.int q b)) k = k (.bool (decide (a < b)))) ∧
  (∀ {t : TypeId} {x y : Operand} {q : IntKind} {a b : Int}  {S : World → Prop} {k : Value → Prop} (hne : ∃ w, S w), (std Try.prog).stepS S (sBin .leq t x y (.int q a) (.int q b)) k = k (.bool (decide (a ≤ b)))) ∧
  (∀ {t : TypeId} {x y : Operand} {q : IntKind} {a b : Int}  {S : World → Prop} {k : Value → Prop} (hne : ∃ w, S w), (std Try.prog).stepS S (sBin .gtr t x y (.int q a) (.int q b)) k = k (.bool (decide (b < a)))) ∧
  (∀ {t : TypeId} {x y : Operand} {q : IntKind} {a b : Int}  {S : World → Prop} {k : Value → Prop} (hne : ∃ w, S w), (std Try.prog).stepS S (sBin .geq t x y (.int q a) (.int q b)) k = k (.bool (decide (b ≤ a)))) ∧
  (∀ {t : TypeId} {x y : Operand} {q : IntKind} {a b : Int}  {S : World → Prop} {k : Value → Prop} (hne : ∃ w, S w), (std Try.prog).stepS S (sBin .eql t x y (.int q a) (.int q b)) k = k (.bool (decide (a = b)))) ∧
  (∀ {t : TypeId} {x y : Operand} {q : IntKind} {a b : Int}  {S : World → Prop} {k : Value → Prop} (hne : ∃ w, S w), (std Try.prog).stepS S (sBin .neq t x y (.int q a) (.int q b)) k = k (.bool (decide (a ≠ b)))) ∧
  (∀ {t : TypeId} {x y : Operand} {q : IntKind} {a b : Int} (h : b ≠ 0) {S : World → Prop} {k : Value → Prop} (hne : ∃ w, S w), (std Try.prog).stepS S (sBin .quo t x y (.int q a) (.int q b)) k = k (.int q (q.wrap (a.tdiv b)))) ∧
  (∀ {t : TypeId} {x y : Operand} {q : IntKind} {a b : Int} (h : b ≠ 0) {S : World → Prop} {k : Value → Prop} (hne : ∃ w, S w), (std Try.prog).stepS S (sBin .rem t x y (.int q a) (.int q b)) k = k (.int q (a.tmod b))) ∧
  (∀ {t : TypeId} {x y : Operand} {q q' : IntKind} {a b : Int} (h : ¬ b < 0) {S : World → Prop} {k : Value → Prop} (hne : ∃ w, S w), (std Try.prog).stepS S (sBin .shl t x y (.int q a) (.int q' b)) k = k (.int q (q.wrap (a * 2 ^ (min b.toNat q.bits))))) ∧
  (∀ {t : TypeId} {x y : Operand} {q q' : IntKind} {a b : Int} (h : ¬ b < 0) {S : World → Prop} {k : Value → Prop} (hne : ∃ w, S w), (std Try.prog).stepS S (sBin .shr t x y (.int q a) (.int q' b)) k = k (.int q (a.fdiv (2 ^ (min b.toNat q.bits))))) ∧
  (∀ {t : TypeId} {x y : Operand} {a b : ByteArray}  {S : World → Prop} {k : Value → Prop} (hne : ∃ w, S w), (std Try.prog).stepS S (sBin .eql t x y (.string a) (.string b)) k = k (.bool (decide (a = b)))) ∧
  (∀ {t : TypeId} {x y : Operand} {a b : ByteArray}  {S : World → Prop} {k : Value → Prop} (hne : ∃ w, S w), (std Try.prog).stepS S (sBin .neq t x y (.string a) (.string b)) k = k (.bool (!decide (a = b)))) ∧
  (∀ {t : TypeId} {x y : Operand} {a b : ByteArray} (h : a.size + b.size ≤ 9223372036854775807) {S : World → Prop} {k : Value → Prop} (hne : ∃ w, S w), (std Try.prog).stepS S (sBin .add t x y (.string a) (.string b)) k = k (.string (a ++ b))) ∧
  (∀ {b : Bool}  {S : World → Prop} {k : Value → Prop} (hne : ∃ w, S w), (std Try.prog).stepS S (sUn .not (.bool b)) k = k (.bool (!b))) ∧
  (∀ {q : IntKind} {a : Int}  {S : World → Prop} {k : Value → Prop} (hne : ∃ w, S w), (std Try.prog).stepS S (sUn .neg (.int q a)) k = k (.int q (q.wrap (0 - a)))) ∧
  (∀ {q : IntKind} {a : Int}  {S : World → Prop} {k : Value → Prop} (hne : ∃ w, S w), (std Try.prog).stepS S (sUn .xor (.int q a)) k = k (.int q (bitOp .xor q (if q.signed then -1 else q.max) a))) ∧
  (∀ {a : Addr}  {S : World → Prop} {k : Value → Prop} (hne : ∃ w, S w), (std Try.prog).stepS S (sNil (.pointer (some a))) k = k (.pointer (some a))) ∧
  (∀ {a b : Value}  {S : World → Prop} {k : Value → Prop} (hne : ∃ w, S w), (std Try.prog).stepS S (sExtract (.tuple #[a, b]) 0) k = k (a)) ∧
  (∀ {a b : Value}  {S : World → Prop} {k : Value → Prop} (hne : ∃ w, S w), (std Try.prog).stepS S (sExtract (.tuple #[a, b]) 1) k = k (b)) ∧
  (∀ {a b c : Value}  {S : World → Prop} {k : Value → Prop} (hne : ∃ w, S w), (std Try.prog).stepS S (sExtract (.tuple #[a, b, c]) 0) k = k (a)) ∧
  (∀ {a b c : Value}  {S : World → Prop} {k : Value → Prop} (hne : ∃ w, S w), (std Try.prog).stepS S (sExtract (.tuple #[a, b, c]) 1) k = k (b)) ∧
  (∀ {a b c : Value}  {S : World → Prop} {k : Value → Prop} (hne : ∃ w, S w), (std Try.prog).stepS S (sExtract (.tuple #[a, b, c]) 2) k = k (c)) ∧
  (∀ {ats : Array TypeId} {ty : TypeId} {c : List Bool} {q : IntKind} {a b : Int}  {S : World → Prop} {k : Value → Prop} (hne : ∃ w, S w), (std Try.prog).stepS S (sBuiltin .min ats ty c [.int q a, .int q b]) k = k (.int q (if b < a then b else a))) ∧
  (∀ {ats : Array TypeId} {ty : TypeId} {c : List Bool} {q : IntKind} {a b : Int}  {S : World → Prop} {k : Value → Prop} (hne : ∃ w, S w), (std Try.prog).stepS S (sBuiltin .max ats ty c [.int q a, .int q b]) k = k (.int q (if a < b then b else a))) ∧
  (∀ {x y : Operand} {a : Addr}  {S : World → Prop} {k : Value → Prop} (hne : ∃ w, S w), (std Try.prog).stepS S (sBin .eql 101 x y (.pointer (some a)) (.pointer none)) k = k (.bool false)) ∧
  (∀ {x y : Operand}  {S : World → Prop} {k : Value → Prop} (hne : ∃ w, S w), (std Try.prog).stepS S (sBin .eql 101 x y (.pointer none) (.pointer none)) k = k (.bool true)) ∧
  (∀ {x y : Operand} {a : Addr}  {S : World → Prop} {k : Value → Prop} (hne : ∃ w, S w), (std Try.prog).stepS S (sBin .eql 146 x y (.pointer (some a)) (.pointer none)) k = k (.bool false)) ∧
  (∀ {x y : Operand}  {S : World → Prop} {k : Value → Prop} (hne : ∃ w, S w), (std Try.prog).stepS S (sBin .eql 146 x y (.pointer none) (.pointer none)) k = k (.bool true)) ∧
  (∀ {x y : Operand} {a : Addr}  {S : World → Prop} {k : Value → Prop} (hne : ∃ w, S w), (std Try.prog).stepS S (sBin .eql 23 x y (.pointer (some a)) (.pointer none)) k = k (.bool false)) ∧
  (∀ {x y : Operand}  {S : World → Prop} {k : Value → Prop} (hne : ∃ w, S w), (std Try.prog).stepS S (sBin .eql 23 x y (.pointer none) (.pointer none)) k = k (.bool true)) ∧
  (∀ {x y : Operand} {a : Addr}  {S : World → Prop} {k : Value → Prop} (hne : ∃ w, S w), (std Try.prog).stepS S (sBin .eql 28 x y (.pointer (some a)) (.pointer none)) k = k (.bool false)) ∧
  (∀ {x y : Operand}  {S : World → Prop} {k : Value → Prop} (hne : ∃ w, S w), (std Try.prog).stepS S (sBin .eql 28 x y (.pointer none) (.pointer none)) k = k (.bool true)) ∧
  (∀ {x y : Operand} {a b : Bool}  {S : World → Prop} {k : Value → Prop} (hne : ∃ w, S w), (std Try.prog).stepS S (sBin .eql 4 x y (.bool a) (.bool b)) k = k (.bool (a == b))) ∧
  (∀ {x y : Operand} {a : Addr}  {S : World → Prop} {k : Value → Prop} (hne : ∃ w, S w), (std Try.prog).stepS S (sBin .eql 81 x y (.pointer (some a)) (.pointer none)) k = k (.bool false)) ∧
  (∀ {x y : Operand}  {S : World → Prop} {k : Value → Prop} (hne : ∃ w, S w), (std Try.prog).stepS S (sBin .eql 81 x y (.pointer none) (.pointer none)) k = k (.bool true)) ∧
  (∀ {x y : Operand} {a : Addr}  {S : World → Prop} {k : Value → Prop} (hne : ∃ w, S w), (std Try.prog).stepS S (sBin .neq 23 x y (.pointer (some a)) (.pointer none)) k = k (.bool true)) ∧
  (∀ {x y : Operand}  {S : World → Prop} {k : Value → Prop} (hne : ∃ w, S w), (std Try.prog).stepS S (sBin .neq 23 x y (.pointer none) (.pointer none)) k = k (.bool false)) ∧
  (∀ {x y : Operand} {a : Addr}  {S : World → Prop} {k : Value → Prop} (hne : ∃ w, S w), (std Try.prog).stepS S (sBin .neq 28 x y (.pointer (some a)) (.pointer none)) k = k (.bool true)) ∧
  (∀ {x y : Operand}  {S : World → Prop} {k : Value → Prop} (hne : ∃ w, S w), (std Try.prog).stepS S (sBin .neq 28 x y (.pointer none) (.pointer none)) k = k (.bool false)) ∧
  (∀ {x y : Operand} {a b : Bool}  {S : World → Prop} {k : Value → Prop} (hne : ∃ w, S w), (std Try.prog).stepS S (sBin .neq 4 x y (.bool a) (.bool b)) k = k (.bool (!(a == b)))) ∧
  (∀ {x y : Operand} {a : Addr}  {S : World → Prop} {k : Value → Prop} (hne : ∃ w, S w), (std Try.prog).stepS S (sBin .neq 81 x y (.pointer (some a)) (.pointer none)) k = k (.bool true)) ∧
  (∀ {x y : Operand}  {S : World → Prop} {k : Value → Prop} (hne : ∃ w, S w), (std Try.prog).stepS S (sBin .neq 81 x y (.pointer none) (.pointer none)) k = k (.bool false)) ∧
  (∀ {ty : TypeId} {c : List Bool} {A : Option Addr} {n m : Nat}  {S : World → Prop} {k : Value → Prop} (hne : ∃ w, S w), (std Try.prog).stepS S (sBuiltin .len #[22] ty c [.slice A n m]) k = k (.int .i64 n)) ∧
  (∀ {ty : TypeId} {c : List Bool} {A : Option Addr} {n m : Nat}  {S : World → Prop} {k : Value → Prop} (hne : ∃ w, S w), (std Try.prog).stepS S (sBuiltin .len #[31] ty c [.slice A n m]) k = k (.int .i64 n)) ∧
  (∀ {ty : TypeId} {c : List Bool} {A : Option Addr} {n m : Nat}  {S : World → Prop} {k : Value → Prop} (hne : ∃ w, S w), (std Try.prog).stepS S (sBuiltin .len #[38] ty c [.slice A n m]) k = k (.int .i64 n)) ∧
  (∀ {ty : TypeId} {c : List Bool} {A : Option Addr} {n m : Nat}  {S : World → Prop} {k : Value → Prop} (hne : ∃ w, S w), (std Try.prog).stepS S (sBuiltin .len #[39] ty c [.slice A n m]) k = k (.int .i64 n)) ∧
  (∀ {ty : TypeId} {c : List Bool} {A : Option Addr} {n m : Nat}  {S : World → Prop} {k : Value → Prop} (hne : ∃ w, S w), (std Try.prog).stepS S (sBuiltin .len #[51] ty c [.slice A n m]) k = k (.int .i64 n)) ∧
  (∀ {ty : TypeId} {c : List Bool} {A : Option Addr} {n m : Nat}  {S : World → Prop} {k : Value → Prop} (hne : ∃ w, S w), (std Try.prog).stepS S (sBuiltin .len #[87] ty c [.slice A n m]) k = k (.int .i64 n)) ∧
  (∀ {ty : TypeId} {c : List Bool} {s : ByteArray}  {S : World → Prop} {k : Value → Prop} (hne : ∃ w, S w), (std Try.prog).stepS S (sBuiltin .len #[9] ty c [.string s]) k = k (.int .i64 s.size)) ∧
  (∀ {ty : TypeId} {c : List Bool} {A : Option Addr} {n m : Nat}  {S : World → Prop} {k : Value → Prop} (hne : ∃ w, S w), (std Try.prog).stepS S (sBuiltin .len #[93] ty c [.slice A n m]) k = k (.int .i64 n)) ∧
  (∀ {q : IntKind} {n : Int}  {S : World → Prop} {k : Value → Prop} (hne : ∃ w, S w), (std Try.prog).stepS S (sConv 104 3 (.int q n)) k = k (.int .i64 (IntKind.wrap .i64 n))) ∧
  (∀ {q : IntKind} {n : Int}  {S : World → Prop} {k : Value → Prop} (hne : ∃ w, S w), (std Try.prog).stepS S (sConv 104 32 (.int q n)) k = k (.int .u64 (IntKind.wrap .u64 n))) ∧
  (∀ {q : IntKind} {n : Int}  {S : World → Prop} {k : Value → Prop} (hne : ∃ w, S w), (std Try.prog).stepS S (sConv 104 5 (.int q n)) k = k (.int .u8 (IntKind.wrap .u8 n))) ∧
  (∀ {q : IntKind} {n : Int}  {S : World → Prop} {k : Value → Prop} (hne : ∃ w, S w), (std Try.prog).stepS S (sConv 132 3 (.int q n)) k = k (.int .i64 (IntKind.wrap .i64 n))) ∧
  (∀ {q : IntKind} {n : Int}  {S : World → Prop} {k : Value → Prop} (hne : ∃ w, S w), (std Try.prog).stepS S (sConv 134 32 (.int q n)) k = k (.int .u64 (IntKind.wrap .u64 n))) ∧
  (∀ {q : IntKind} {n : Int}  {S : World → Prop} {k : Value → Prop} (hne : ∃ w, S w), (std Try.prog).stepS S (sConv 134 5 (.int q n)) k = k (.int .u8 (IntKind.wrap .u8 n))) ∧
  (∀ {q : IntKind} {n : Int}  {S : World → Prop} {k : Value → Prop} (hne : ∃ w, S w), (std Try.prog).stepS S (sConv 149 3 (.int q n)) k = k (.int .i64 (IntKind.wrap .i64 n))) ∧
  (∀ {q : IntKind} {n : Int}  {S : World → Prop} {k : Value → Prop} (hne : ∃ w, S w), (std Try.prog).stepS S (sConv 149 32 (.int q n)) k = k (.int .u64 (IntKind.wrap .u64 n))) ∧
  (∀ {q : IntKind} {n : Int}  {S : World → Prop} {k : Value → Prop} (hne : ∃ w, S w), (std Try.prog).stepS S (sConv 3 104 (.int q n)) k = k (.int .u32 (IntKind.wrap .u32 n))) ∧
  (∀ {q : IntKind} {n : Int}  {S : World → Prop} {k : Value → Prop} (hne : ∃ w, S w), (std Try.prog).stepS S (sConv 3 132 (.int q n)) k = k (.int .u64 (IntKind.wrap .u64 n))) ∧
  (∀ {q : IntKind} {n : Int}  {S : World → Prop} {k : Value → Prop} (hne : ∃ w, S w), (std Try.prog).stepS S (sConv 3 149 (.int q n)) k = k (.int .u16 (IntKind.wrap .u16 n))) ∧
  (∀ {q : IntKind} {n : Int}  {S : World → Prop} {k : Value → Prop} (hne : ∃ w, S w), (std Try.prog).stepS S (sConv 3 32 (.int q n)) k = k (.int .u64 (IntKind.wrap .u64 n))) ∧
  (∀ {q : IntKind} {n : Int}  {S : World → Prop} {k : Value → Prop} (hne : ∃ w, S w), (std Try.prog).stepS S (sConv 3 5 (.int q n)) k = k (.int .u8 (IntKind.wrap .u8 n))) ∧
  (∀ {q : IntKind} {n : Int}  {S : World → Prop} {k : Value → Prop} (hne : ∃ w, S w), (std Try.prog).stepS S (sConv 32 104 (.int q n)) k = k (.int .u32 (IntKind.wrap .u32 n))) ∧
  (∀ {q : IntKind} {n : Int}  {S : World → Prop} {k : Value → Prop} (hne : ∃ w, S w), (std Try.prog).stepS S (sConv 32 134 (.int q n)) k = k (.int .i64 (IntKind.wrap .i64 n))) ∧
  (∀ {q : IntKind} {n : Int}  {S : World → Prop} {k : Value → Prop} (hne : ∃ w, S w), (std Try.prog).stepS S (sConv 32 149 (.int q n)) k = k (.int .u16 (IntKind.wrap .u16 n))) ∧
  (∀ {q : IntKind} {n : Int}  {S : World → Prop} {k : Value → Prop} (hne : ∃ w, S w), (std Try.prog).stepS S (sConv 32 3 (.int q n)) k = k (.int .i64 (IntKind.wrap .i64 n))) ∧
  (∀ {q : IntKind} {n : Int}  {S : World → Prop} {k : Value → Prop} (hne : ∃ w, S w), (std Try.prog).stepS S (sConv 32 33 (.int q n)) k = k (.int .i64 (IntKind.wrap .i64 n))) ∧
  (∀ {q : IntKind} {n : Int}  {S : World → Prop} {k : Value → Prop} (hne : ∃ w, S w), (std Try.prog).stepS S (sConv 32 35 (.int q n)) k = k (.int .i64 (IntKind.wrap .i64 n))) ∧
  (∀ {q : IntKind} {n : Int}  {S : World → Prop} {k : Value → Prop} (hne : ∃ w, S w), (std Try.prog).stepS S (sConv 32 5 (.int q n)) k = k (.int .u8 (IntKind.wrap .u8 n))) ∧
  (∀ {q : IntKind} {n : Int}  {S : World → Prop} {k : Value → Prop} (hne : ∃ w, S w), (std Try.prog).stepS S (sConv 33 32 (.int q n)) k = k (.int .u64 (IntKind.wrap .u64 n))) ∧
  (∀ {q : IntKind} {n : Int}  {S : World → Prop} {k : Value → Prop} (hne : ∃ w, S w), (std Try.prog).stepS S (sConv 33 5 (.int q n)) k = k (.int .u8 (IntKind.wrap .u8 n))) ∧
  (∀ {q : IntKind} {n : Int}  {S : World → Prop} {k : Value → Prop} (hne : ∃ w, S w), (std Try.prog).stepS S (sConv 35 32 (.int q n)) k = k (.int .u64 (IntKind.wrap .u64 n))) ∧
  (∀ {q : IntKind} {n : Int}  {S : World → Prop} {k : Value → Prop} (hne : ∃ w, S w), (std Try.prog).stepS S (sConv 35 5 (.int q n)) k = k (.int .u8 (IntKind.wrap .u8 n))) ∧
  (∀ {q : IntKind} {n : Int}  {S : World → Prop} {k : Value → Prop} (hne : ∃ w, S w), (std Try.prog).stepS S (sConv 5 104 (.int q n)) k = k (.int .u32 (IntKind.wrap .u32 n))) ∧
  (∀ {q : IntKind} {n : Int}  {S : World → Prop} {k : Value → Prop} (hne : ∃ w, S w), (std Try.prog).stepS S (sConv 5 134 (.int q n)) k = k (.int .i64 (IntKind.wrap .i64 n))) ∧
  (∀ {q : IntKind} {n : Int}  {S : World → Prop} {k : Value → Prop} (hne : ∃ w, S w), (std Try.prog).stepS S (sConv 5 3 (.int q n)) k = k (.int .i64 (IntKind.wrap .i64 n))) ∧
  (∀ {q : IntKind} {n : Int}  {S : World → Prop} {k : Value → Prop} (hne : ∃ w, S w), (std Try.prog).stepS S (sConv 5 32 (.int q n)) k = k (.int .u64 (IntKind.wrap .u64 n))) ∧
  (∀ {q : IntKind} {n : Int}  {S : World → Prop} {k : Value → Prop} (hne : ∃ w, S w), (std Try.prog).stepS S (sConv 5 33 (.int q n)) k = k (.int .i64 (IntKind.wrap .i64 n))) ∧
  (∀ {q : IntKind} {n : Int}  {S : World → Prop} {k : Value → Prop} (hne : ∃ w, S w), (std Try.prog).stepS S (sConv 5 35 (.int q n)) k = k (.int .i64 (IntKind.wrap .i64 n))) ∧
  (∀ {a : Addr}  {S : World → Prop} {k : Value → Prop} (hne : ∃ w, S w), (std Try.prog).stepS S (sFieldAddr 111 (.pointer (some a)) 0) k = k (.pointer (some (a)))) ∧
  (∀ {a : Addr}  {S : World → Prop} {k : Value → Prop} (hne : ∃ w, S w), (std Try.prog).stepS S (sFieldAddr 111 (.pointer (some a)) 1) k = k (.pointer (some (a.add 1)))) ∧
  (∀ {a : Addr}  {S : World → Prop} {k : Value → Prop} (hne : ∃ w, S w), (std Try.prog).stepS S (sFieldAddr 127 (.pointer (some a)) 0) k = k (.pointer (some (a)))) ∧
  (∀ {a : Addr}  {S : World → Prop} {k : Value → Prop} (hne : ∃ w, S w), (std Try.prog).stepS S (sFieldAddr 129 (.pointer (some a)) 0) k = k (.pointer (some (a)))) ∧
  (∀ {a : Addr}  {S : World → Prop} {k : Value → Prop} (hne : ∃ w, S w), (std Try.prog).stepS S (sFieldAddr 136 (.pointer (some a)) 0) k = k (.pointer (some (a)))) ∧
  (∀ {a : Addr}  {S : World → Prop} {k : Value → Prop} (hne : ∃ w, S w), (std Try.prog).stepS S (sFieldAddr 136 (.pointer (some a)) 1) k = k (.pointer (some (a.add 1)))) ∧
  (∀ {a : Addr}  {S : World → Prop} {k : Value → Prop} (hne : ∃ w, S w), (std Try.prog).stepS S (sFieldAddr 136 (.pointer (some a)) 2) k = k (.pointer (some (a.add 2)))) ∧
  (∀ {a : Addr}  {S : World → Prop} {k : Value → Prop} (hne : ∃ w, S w), (std Try.prog).stepS S (sFieldAddr 138 (.pointer (some a)) 0) k = k (.pointer (some (a)))) ∧
  (∀ {a : Addr}  {S : World → Prop} {k : Value → Prop} (hne : ∃ w, S w), (std Try.prog).stepS S (sFieldAddr 138 (.pointer (some a)) 1) k = k (.pointer (some (a.add 1)))) ∧
  (∀ {a : Addr}  {S : World → Prop} {k : Value → Prop} (hne : ∃ w, S w), (std Try.prog).stepS S (sFieldAddr 155 (.pointer (some a)) 0) k = k (.pointer (some (a)))) ∧
  (∀ {a : Addr}  {S : World → Prop} {k : Value → Prop} (hne : ∃ w, S w), (std Try.prog).stepS S (sFieldAddr 155 (.pointer (some a)) 1) k = k (.pointer (some (a.add 1)))) ∧
  (∀ {a : Addr}  {S : World → Prop} {k : Value → Prop} (hne : ∃ w, S w), (std Try.prog).stepS S (sFieldAddr 155 (.pointer (some a)) 2) k = k (.pointer (some (a.add 2)))) ∧
  (∀ {a : Addr}  {S : World → Prop} {k : Value → Prop} (hne : ∃ w, S w), (std Try.prog).stepS S (sFieldAddr 163 (.pointer (some a)) 0) k = k (.pointer (some (a)))) ∧
  (∀ {a : Addr}  {S : World → Prop} {k : Value → Prop} (hne : ∃ w, S w), (std Try.prog).stepS S (sFieldAddr 163 (.pointer (some a)) 1) k = k (.pointer (some (a.add 1)))) ∧
  (∀ {a : Addr}  {S : World → Prop} {k : Value → Prop} (hne : ∃ w, S w), (std Try.prog).stepS S (sFieldAddr 166 (.pointer (some a)) 0) k = k (.pointer (some (a)))) ∧
  (∀ {a : Addr}  {S : World → Prop} {k : Value → Prop} (hne : ∃ w, S w), (std Try.prog).stepS S (sFieldAddr 37 (.pointer (some a)) 0) k = k (.pointer (some (a)))) ∧
  (∀ {a : Addr}  {S : World → Prop} {k : Value → Prop} (hne : ∃ w, S w), (std Try.prog).stepS S (sFieldAddr 37 (.pointer (some a)) 1) k = k (.pointer (some (a.add 1)))) ∧
  (∀ {a : Addr}  {S : World → Prop} {k : Value → Prop} (hne : ∃ w, S w), (std Try.prog).stepS S (sFieldAddr 37 (.pointer (some a)) 2) k = k (.pointer (some (a.add 2)))) ∧
  (∀ {a : Addr}  {S : World → Prop} {k : Value → Prop} (hne : ∃ w, S w), (std Try.prog).stepS S (sFieldAddr 37 (.pointer (some a)) 3) k = k (.pointer (some (a.add 3)))) ∧
  (∀ {a : Addr}  {S : World → Prop} {k : Value → Prop} (hne : ∃ w, S w), (std Try.prog).stepS S (sFieldAddr 41 (.pointer (some a)) 0) k = k (.pointer (some (a)))) ∧
  (∀ {a : Addr}  {S : World → Prop} {k : Value → Prop} (hne : ∃ w, S w), (std Try.prog).stepS S (sFieldAddr 41 (.pointer (some a)) 1) k = k (.pointer (some (a.add 1)))) ∧
  (∀ {a : Addr}  {S : World → Prop} {k : Value → Prop} (hne : ∃ w, S w), (std Try.prog).stepS S (sFieldAddr 41 (.pointer (some a)) 2) k = k (.pointer (some (a.add 2)))) ∧
  (∀ {a : Addr}  {S : World → Prop} {k : Value → Prop} (hne : ∃ w, S w), (std Try.prog).stepS S (sFieldAddr 41 (.pointer (some a)) 3) k = k (.pointer (some (a.add 3)))) ∧
  (∀ {a : Addr}  {S : World → Prop} {k : Value → Prop} (hne : ∃ w, S w), (std Try.prog).stepS S (sFieldAddr 41 (.pointer (some a)) 4) k = k (.pointer (some (a.add 4)))) ∧
  (∀ {a : Addr}  {S : World → Prop} {k : Value → Prop} (hne : ∃ w, S w), (std Try.prog).stepS S (sFieldAddr 41 (.pointer (some a)) 5) k = k (.pointer (some (a.add 5)))) ∧
  (∀ {a : Addr}  {S : World → Prop} {k : Value → Prop} (hne : ∃ w, S w), (std Try.prog).stepS S (sFieldAddr 41 (.pointer (some a)) 6) k = k (.pointer (some (a.add 6)))) ∧
  (∀ {a : Addr}  {S : World → Prop} {k : Value → Prop} (hne : ∃ w, S w), (std Try.prog).stepS S (sFieldAddr 41 (.pointer (some a)) 7) k = k (.pointer (some (a.add 10)))) ∧
  (∀ {a : Addr}  {S : World → Prop} {k : Value → Prop} (hne : ∃ w, S w), (std Try.prog).stepS S (sFieldAddr 41 (.pointer (some a)) 8) k = k (.pointer (some (a.add 11)))) ∧
  (∀ {a : Addr}  {S : World → Prop} {k : Value → Prop} (hne : ∃ w, S w), (std Try.prog).stepS S (sFieldAddr 43 (.pointer (some a)) 0) k = k (.pointer (some (a)))) ∧
  (∀ {a : Addr}  {S : World → Prop} {k : Value → Prop} (hne : ∃ w, S w), (std Try.prog).stepS S (sFieldAddr 43 (.pointer (some a)) 1) k = k (.pointer (some (a.add 1)))) ∧
  (∀ {a : Addr}  {S : World → Prop} {k : Value → Prop} (hne : ∃ w, S w), (std Try.prog).stepS S (sFieldAddr 43 (.pointer (some a)) 3) k = k (.pointer (some (a.add 3)))) ∧
  (∀ {a : Addr}  {S : World → Prop} {k : Value → Prop} (hne : ∃ w, S w), (std Try.prog).stepS S (sFieldAddr 53 (.pointer (some a)) 0) k = k (.pointer (some (a)))) ∧
  (∀ {a : Addr}  {S : World → Prop} {k : Value → Prop} (hne : ∃ w, S w), (std Try.prog).stepS S (sFieldAddr 56 (.pointer (some a)) 0) k = k (.pointer (some (a)))) ∧
  (∀ {a : Addr}  {S : World → Prop} {k : Value → Prop} (hne : ∃ w, S w), (std Try.prog).stepS S (sFieldAddr 56 (.pointer (some a)) 1) k = k (.pointer (some (a.add 1)))) ∧
  (∀ {a : Addr}  {S : World → Prop} {k : Value → Prop} (hne : ∃ w, S w), (std Try.prog).stepS S (sFieldAddr 64 (.pointer (some a)) 1) k = k (.pointer (some (a.add 1)))) ∧
  (∀ {a : Addr}  {S : World → Prop} {k : Value → Prop} (hne : ∃ w, S w), (std Try.prog).stepS S (sFieldAddr 64 (.pointer (some a)) 5) k = k (.pointer (some (a.add 5)))) ∧
  (∀ {a : Addr}  {S : World → Prop} {k : Value → Prop} (hne : ∃ w, S w), (std Try.prog).stepS S (sFieldAddr 84 (.pointer (some a)) 0) k = k (.pointer (some (a)))) ∧
  (∀ {a : Addr}  {S : World → Prop} {k : Value → Prop} (hne : ∃ w, S w), (std Try.prog).stepS S (sFieldAddr 84 (.pointer (some a)) 1) k = k (.pointer (some (a.add 1)))) ∧
  (∀ {a : Addr}  {S : World → Prop} {k : Value → Prop} (hne : ∃ w, S w), (std Try.prog).stepS S (sFieldAddr 91 (.pointer (some a)) 0) k = k (.pointer (some (a)))) ∧
  (∀ {a : Addr}  {S : World → Prop} {k : Value → Prop} (hne : ∃ w, S w), (std Try.prog).stepS S (sFieldAddr 91 (.pointer (some a)) 1) k = k (.pointer (some (a.add 1)))) ∧
  (∀ {a : Addr}  {S : World → Prop} {k : Value → Prop} (hne : ∃ w, S w), (std Try.prog).stepS S (sFieldAddr 91 (.pointer (some a)) 2) k = k (.pointer (some (a.add 2)))) ∧
  (∀ {a : Addr}  {S : World → Prop} {k : Value → Prop} (hne : ∃ w, S w), (std Try.prog).stepS S (sFieldAddr 91 (.pointer (some a)) 3) k = k (.pointer (some (a.add 3)))) ∧
  (∀ {a : Addr}  {S : World → Prop} {k : Value → Prop} (hne : ∃ w, S w), (std Try.prog).stepS S (sFieldAddr 91 (.pointer (some a)) 4) k = k (.pointer (some (a.add 4)))) ∧
  (∀ {a : Addr}  {S : World → Prop} {k : Value → Prop} (hne : ∃ w, S w), (std Try.prog).stepS S (sFieldAddr 91 (.pointer (some a)) 5) k = k (.pointer (some (a.add 5)))) ∧
  (∀ {a : Addr}  {S : World → Prop} {k : Value → Prop} (hne : ∃ w, S w), (std Try.prog).stepS S (sFieldAddr 91 (.pointer (some a)) 6) k = k (.pointer (some (a.add 6)))) ∧
  (∀ {a : Addr}  {S : World → Prop} {k : Value → Prop} (hne : ∃ w, S w), (std Try.prog).stepS S (sFieldAddr 91 (.pointer (some a)) 7) k = k (.pointer (some (a.add 7)))) ∧
  (∀ {a : Addr}  {S : World → Prop} {k : Value → Prop} (hne : ∃ w, S w), (std Try.prog).stepS S (sFieldAddr 91 (.pointer (some a)) 8) k = k (.pointer (some (a.add 8)))) ∧
  (∀ {a : Addr}  {S : World → Prop} {k : Value → Prop} (hne : ∃ w, S w), (std Try.prog).stepS S (sFieldAddr 95 (.pointer (some a)) 0) k = k (.pointer (some (a)))) ∧
  (∀ {a : Addr}  {S : World → Prop} {k : Value → Prop} (hne : ∃ w, S w), (std Try.prog).stepS S (sFieldAddr 95 (.pointer (some a)) 1) k = k (.pointer (some (a.add 12)))) ∧
  (∀ {a : Addr} {i : Nat} (h : i < 16) {S : World → Prop} {k : Value → Prop} (hne : ∃ w, S w), (std Try.prog).stepS S (sIndexAddr 172 (.pointer (some a)) (.int .i64 (i : Nat))) k = k (.pointer (some (a.add (i))))) ∧
  (∀ {a : Addr} {n c i : Nat} (h : i < n) {S : World → Prop} {k : Value → Prop} (hne : ∃ w, S w), (std Try.prog).stepS S (sIndexAddr 22 (.slice (some a) n c) (.int .i64 (i : Nat))) k = k (.pointer (some (a.add (i * 15))))) ∧
  (∀ {a : Addr} {n c i : Nat} (h : i < n) {S : World → Prop} {k : Value → Prop} (hne : ∃ w, S w), (std Try.prog).stepS S (sIndexAddr 31 (.slice (some a) n c) (.int .i64 (i : Nat))) k = k (.pointer (some (a.add (i * 12))))) ∧
  (∀ {a : Addr} {n c i : Nat} (h : i < n) {S : World → Prop} {k : Value → Prop} (hne : ∃ w, S w), (std Try.prog).stepS S (sIndexAddr 38 (.slice (some a) n c) (.int .i64 (i : Nat))) k = k (.pointer (some (a.add (i * 3))))) ∧
  (∀ {a : Addr} {n c i : Nat} (h : i < n) {S : World → Prop} {k : Value → Prop} (hne : ∃ w, S w), (std Try.prog).stepS S (sIndexAddr 39 (.slice (some a) n c) (.int .i64 (i : Nat))) k = k (.pointer (some (a.add (i * 2))))) ∧
  (∀ {a : Addr} {n c i : Nat} (h : i < n) {S : World → Prop} {k : Value → Prop} (hne : ∃ w, S w), (std Try.prog).stepS S (sIndexAddr 51 (.slice (some a) n c) (.int .i64 (i : Nat))) k = k (.pointer (some (a.add (i))))) ∧
  (∀ {a : Addr} {i : Nat} (h : i < 8) {S : World → Prop} {k : Value → Prop} (hne : ∃ w, S w), (std Try.prog).stepS S (sIndexAddr 54 (.pointer (some a)) (.int .i64 (i : Nat))) k = k (.pointer (some (a.add (i * 3))))) ∧
  (∀ {a : Addr} {i : Nat} (h : i < 8) {S : World → Prop} {k : Value → Prop} (hne : ∃ w, S w), (std Try.prog).stepS S (sIndexAddr 82 (.pointer (some a)) (.int .i64 (i : Nat))) k = k (.pointer (some (a.add (i))))) ∧
  (∀ {a : Addr} {n c i : Nat} (h : i < n) {S : World → Prop} {k : Value → Prop} (hne : ∃ w, S w), (std Try.prog).stepS S (sIndexAddr 87 (.slice (some a) n c) (.int .i64 (i : Nat))) k = k (.pointer (some (a.add (i * 13))))) ∧
  (∀ {a : Addr} {n c i : Nat} (h : i < n) {S : World → Prop} {k : Value → Prop} (hne : ∃ w, S w), (std Try.prog).stepS S (sIndexAddr 93 (.slice (some a) n c) (.int .i64 (i : Nat))) k = k (.pointer (some (a.add (i))))) := ⟨@sx_add, @sx_sub, @sx_mul, @sx_and, @sx_or, @sx_xor, @sx_lss, @sx_leq, @sx_gtr, @sx_geq, @sx_eql, @sx_neq, @sx_quo, @sx_rem, @sx_shl, @sx_shr, @sx_seql, @sx_sneq, @sx_sadd, @sx_not, @sx_neg, @sx_inv, @sx_nilc, @sx_ext20, @sx_ext21, @sx_ext30, @sx_ext31, @sx_ext32, @sx_min, @sx_max, @sx_peql101, @sx_neql101, @sx_peql146, @sx_neql146, @sx_peql23, @sx_neql23, @sx_peql28, @sx_neql28, @sx_beql4, @sx_peql81, @sx_neql81, @sx_pneq23, @sx_nneq23, @sx_pneq28, @sx_nneq28, @sx_bneq4, @sx_pneq81, @sx_nneq81, @sx_len22, @sx_len31, @sx_len38, @sx_len39, @sx_len51, @sx_len87, @sx_len9, @sx_len93, @sx_cv104_3, @sx_cv104_32, @sx_cv104_5, @sx_cv132_3, @sx_cv134_32, @sx_cv134_5, @sx_cv149_3, @sx_cv149_32, @sx_cv3_104, @sx_cv3_132, @sx_cv3_149, @sx_cv3_32, @sx_cv3_5, @sx_cv32_104, @sx_cv32_134, @sx_cv32_149, @sx_cv32_3, @sx_cv32_33, @sx_cv32_35, @sx_cv32_5, @sx_cv33_32, @sx_cv33_5, @sx_cv35_32, @sx_cv35_5, @sx_cv5_104, @sx_cv5_134, @sx_cv5_3, @sx_cv5_32, @sx_cv5_33, @sx_cv5_35, @sx_fa111_0, @sx_fa111_1, @sx_fa127_0, @sx_fa129_0, @sx_fa136_0, @sx_fa136_1, @sx_fa136_2, @sx_fa138_0, @sx_fa138_1, @sx_fa155_0, @sx_fa155_1, @sx_fa155_2, @sx_fa163_0, @sx_fa163_1, @sx_fa166_0, @sx_fa37_0, @sx_fa37_1, @sx_fa37_2, @sx_fa37_3, @sx_fa41_0, @sx_fa41_1, @sx_fa41_2, @sx_fa41_3, @sx_fa41_4, @sx_fa41_5, @sx_fa41_6, @sx_fa41_7, @sx_fa41_8, @sx_fa43_0, @sx_fa43_1, @sx_fa43_3, @sx_fa53_0, @sx_fa56_0, @sx_fa56_1, @sx_fa64_1, @sx_fa64_5, @sx_fa84_0, @sx_fa84_1, @sx_fa91_0, @sx_fa91_1, @sx_fa91_2, @sx_fa91_3, @sx_fa91_4, @sx_fa91_5, @sx_fa91_6, @sx_fa91_7, @sx_fa91_8, @sx_fa95_0, @sx_fa95_1, @sx_xa172, @sx_ix22, @sx_ix31, @sx_ix38, @sx_ix39, @sx_ix51, @sx_xa54, @sx_xa82, @sx_ix87, @sx_ix93⟩
theorem SLX : (∀ {a : Addr} {v : Value} {S : World → Prop} {k : Value → Prop} (hne : ∃ w, S w) (h : ∀ w, S w → w.cell? a = some v), (std Try.prog).stepS S (sLoad 104 (.pointer (some a))) k = k v) ∧
  (∀ {a : Addr} {v : Value} {S : World → Prop} {k : Value → Prop} (hne : ∃ w, S w) (h : ∀ w, S w → w.cell? a = some v), (std Try.prog).stepS S (sLoad 134 (.pointer (some a))) k = k v) ∧
  (∀ {a : Addr} {v : Value} {S : World → Prop} {k : Value → Prop} (hne : ∃ w, S w) (h : ∀ w, S w → w.cell? a = some v), (std Try.prog).stepS S (sLoad 23 (.pointer (some a))) k = k v) ∧
  (∀ {a : Addr} {v : Value} {S : World → Prop} {k : Value → Prop} (hne : ∃ w, S w) (h : ∀ w, S w → w.cell? a = some v), (std Try.prog).stepS S (sLoad 24 (.pointer (some a))) k = k v) ∧
  (∀ {a : Addr} {v : Value} {S : World → Prop} {k : Value → Prop} (hne : ∃ w, S w) (h : ∀ w, S w → w.cell? a = some v), (std Try.prog).stepS S (sLoad 28 (.pointer (some a))) k = k v) ∧
  (∀ {a : Addr} {v : Value} {S : World → Prop} {k : Value → Prop} (hne : ∃ w, S w) (h : ∀ w, S w → w.cell? a = some v), (std Try.prog).stepS S (sLoad 3 (.pointer (some a))) k = k v) ∧
  (∀ {a : Addr} {v : Value} {S : World → Prop} {k : Value → Prop} (hne : ∃ w, S w) (h : ∀ w, S w → w.cell? a = some v), (std Try.prog).stepS S (sLoad 31 (.pointer (some a))) k = k v) ∧
  (∀ {a : Addr} {v : Value} {S : World → Prop} {k : Value → Prop} (hne : ∃ w, S w) (h : ∀ w, S w → w.cell? a = some v), (std Try.prog).stepS S (sLoad 33 (.pointer (some a))) k = k v) ∧
  (∀ {a : Addr} {v : Value} {S : World → Prop} {k : Value → Prop} (hne : ∃ w, S w) (h : ∀ w, S w → w.cell? a = some v), (std Try.prog).stepS S (sLoad 34 (.pointer (some a))) k = k v) ∧
  (∀ {a : Addr} {v : Value} {S : World → Prop} {k : Value → Prop} (hne : ∃ w, S w) (h : ∀ w, S w → w.cell? a = some v), (std Try.prog).stepS S (sLoad 35 (.pointer (some a))) k = k v) ∧
  (∀ {a : Addr} {v : Value} {S : World → Prop} {k : Value → Prop} (hne : ∃ w, S w) (h : ∀ w, S w → w.cell? a = some v), (std Try.prog).stepS S (sLoad 38 (.pointer (some a))) k = k v) ∧
  (∀ {a : Addr} {v : Value} {S : World → Prop} {k : Value → Prop} (hne : ∃ w, S w) (h : ∀ w, S w → w.cell? a = some v), (std Try.prog).stepS S (sLoad 39 (.pointer (some a))) k = k v) ∧
  (∀ {a : Addr} {v : Value} {S : World → Prop} {k : Value → Prop} (hne : ∃ w, S w) (h : ∀ w, S w → w.cell? a = some v), (std Try.prog).stepS S (sLoad 4 (.pointer (some a))) k = k v) ∧
  (∀ {a : Addr} {v : Value} {S : World → Prop} {k : Value → Prop} (hne : ∃ w, S w) (h : ∀ w, S w → w.cell? a = some v), (std Try.prog).stepS S (sLoad 5 (.pointer (some a))) k = k v) ∧
  (∀ {a : Addr} {v : Value} {S : World → Prop} {k : Value → Prop} (hne : ∃ w, S w) (h : ∀ w, S w → w.cell? a = some v), (std Try.prog).stepS S (sLoad 51 (.pointer (some a))) k = k v) ∧
  (∀ {a : Addr} {v : Value} {S : World → Prop} {k : Value → Prop} (hne : ∃ w, S w) (h : ∀ w, S w → w.cell? a = some v), (std Try.prog).stepS S (sLoad 81 (.pointer (some a))) k = k v) ∧
  (∀ {a : Addr} {v : Value} {S : World → Prop} {k : Value → Prop} (hne : ∃ w, S w) (h : ∀ w, S w → w.cell? a = some v), (std Try.prog).stepS S (sLoad 87 (.pointer (some a))) k = k v) ∧
  (∀ {a : Addr} {v : Value} {S : World → Prop} {k : Value → Prop} (hne : ∃ w, S w) (h : ∀ w, S w → w.cell? a = some v), (std Try.prog).stepS S (sLoad 9 (.pointer (some a))) k = k v) ∧
  (∀ {a : Addr} {v : Value} {S : World → Prop} {k : Value → Prop} (hne : ∃ w, S w) (h : ∀ w, S w → w.cell? a = some v), (std Try.prog).stepS S (sLoad 99 (.pointer (some a))) k = k v) := ⟨@sld104, @sld134, @sld23, @sld24, @sld28, @sld3, @sld31, @sld33, @sld34, @sld35, @sld38, @sld39, @sld4, @sld5, @sld51, @sld81, @sld87, @sld9, @sld99⟩
theorem LX : (∀ {a : Addr} {v : Value} {w : World} {K : Value → World → Prop} (h : w.cell? a = some v), (std Try.prog).step (sLoad 104 (.pointer (some a))) w K = K v w) ∧
  (∀ {a : Addr} {v : Value} {w : World} {K : Value → World → Prop} (h : w.cell? a = some v), (std Try.prog).step (sLoad 134 (.pointer (some a))) w K = K v w) ∧
  (∀ {a : Addr} {v : Value} {w : World} {K : Value → World → Prop} (h : w.cell? a = some v), (std Try.prog).step (sLoad 23 (.pointer (some a))) w K = K v w) ∧
  (∀ {a : Addr} {v : Value} {w : World} {K : Value → World → Prop} (h : w.cell? a = some v), (std Try.prog).step (sLoad 24 (.pointer (some a))) w K = K v w) ∧
  (∀ {a : Addr} {v : Value} {w : World} {K : Value → World → Prop} (h : w.cell? a = some v), (std Try.prog).step (sLoad 28 (.pointer (some a))) w K = K v w) ∧
  (∀ {a : Addr} {v : Value} {w : World} {K : Value → World → Prop} (h : w.cell? a = some v), (std Try.prog).step (sLoad 3 (.pointer (some a))) w K = K v w) ∧
  (∀ {a : Addr} {v : Value} {w : World} {K : Value → World → Prop} (h : w.cell? a = some v), (std Try.prog).step (sLoad 31 (.pointer (some a))) w K = K v w) ∧
  (∀ {a : Addr} {v : Value} {w : World} {K : Value → World → Prop} (h : w.cell? a = some v), (std Try.prog).step (sLoad 33 (.pointer (some a))) w K = K v w) ∧
  (∀ {a : Addr} {v : Value} {w : World} {K : Value → World → Prop} (h : w.cell? a = some v), (std Try.prog).step (sLoad 34 (.pointer (some a))) w K = K v w) ∧
  (∀ {a : Addr} {v : Value} {w : World} {K : Value → World → Prop} (h : w.cell? a = some v), (std Try.prog).step (sLoad 35 (.pointer (some a))) w K = K v w) ∧
  (∀ {a : Addr} {v : Value} {w : World} {K : Value → World → Prop} (h : w.cell? a = some v), (std Try.prog).step (sLoad 38 (.pointer (some a))) w K = K v w) ∧
  (∀ {a : Addr} {v : Value} {w : World} {K : Value → World → Prop} (h : w.cell? a = some v), (std Try.prog).step (sLoad 39 (.pointer (some a))) w K = K v w) ∧
  (∀ {a : Addr} {v : Value} {w : World} {K : Value → World → Prop} (h : w.cell? a = some v), (std Try.prog).step (sLoad 4 (.pointer (some a))) w K = K v w) ∧
  (∀ {a : Addr} {v : Value} {w : World} {K : Value → World → Prop} (h : w.cell? a = some v), (std Try.prog).step (sLoad 5 (.pointer (some a))) w K = K v w) ∧
  (∀ {a : Addr} {v : Value} {w : World} {K : Value → World → Prop} (h : w.cell? a = some v), (std Try.prog).step (sLoad 51 (.pointer (some a))) w K = K v w) ∧
  (∀ {a : Addr} {v : Value} {w : World} {K : Value → World → Prop} (h : w.cell? a = some v), (std Try.prog).step (sLoad 81 (.pointer (some a))) w K = K v w) ∧
  (∀ {a : Addr} {v : Value} {w : World} {K : Value → World → Prop} (h : w.cell? a = some v), (std Try.prog).step (sLoad 87 (.pointer (some a))) w K = K v w) ∧
  (∀ {a : Addr} {v : Value} {w : World} {K : Value → World → Prop} (h : w.cell? a = some v), (std Try.prog).step (sLoad 9 (.pointer (some a))) w K = K v w) ∧
  (∀ {a : Addr} {v : Value} {w : World} {K : Value → World → Prop} (h : w.cell? a = some v), (std Try.prog).step (sLoad 99 (.pointer (some a))) w K = K v w) := ⟨@ld104, @ld134, @ld23, @ld24, @ld28, @ld3, @ld31, @ld33, @ld34, @ld35, @ld38, @ld39, @ld4, @ld5, @ld51, @ld81, @ld87, @ld9, @ld99⟩
theorem BX : (∀ (p : Prop) [Decidable p] (A B : Prop), (std Try.prog).bool (.bool (decide p)) A B = ((p → A) ∧ (¬ p → B))) ∧ (∀ (A B : Prop), (std Try.prog).bool (.bool true) A B = A) ∧ (∀ (A B : Prop), (std Try.prog).bool (.bool false) A B = B) ∧ (∀ (b : Bool) (A B : Prop), (std Try.prog).bool (.bool (!b)) A B = (std Try.prog).bool (.bool b) B A) := ⟨fun p => bool_dec p, bool_true, bool_false, bool_not⟩
end Go.Proofs.Ytplpjikcgheiiaa

/- Regions by hand, one operation at a time (where a call may panic, or is deferred). -/
namespace Go.Proofs.Ytplpjikcgheiiaa
open Go Xf Go.RowKit
set_option maxRecDepth 100000
section
variable {P : Program} {ops : Array Oper} {Q : Exit → Act → World → Prop} {i : Nat} {rest : List Nat} {a : Act} {w w' : World} {o : Oper}
theorem wpO (ho : ops[i]? = some o) (hw : Region.wanted o (yielded ops a.tmps) = true) (h : o.upon P a (wpOps P ops Q rest) Q ((execOp a.eval o).run P w)) : wpOps P ops Q (i :: rest) a w := by
  unfold wpOps
  rw [ho]
  simp only [hw, if_true]
  exact .inl h
theorem wpO_val {v : Value} (ho : ops[i]? = some o) (hw : Region.wanted o (yielded ops a.tmps) = true) (hr : (execOp a.eval o).run P w = .ok (.value v) w') (h : wpOps P ops Q rest (a.put o.dst v) w') : wpOps P ops Q (i :: rest) a w :=
  wpO ho hw (by rw [hr]; exact h)
theorem wpO_skip (ho : ops[i]? = some o) (hw : Region.wanted o (yielded ops a.tmps) = true) (hr : (execOp a.eval o).run P w = .ok .skip w') (h : wpOps P ops Q rest (a.put o.dst undef) w') : wpOps P ops Q (i :: rest) a w :=
  wpO ho hw (by rw [hr]; exact h)
theorem wpO_defer {d : Deferred} (ho : ops[i]? = some o) (hw : Region.wanted o (yielded ops a.tmps) = true) (hr : (execOp a.eval o).run P w = .ok (.defer d) w') (h : wpOps P ops Q rest ({ a with defers := d :: a.defers }.put o.dst undef) w') : wpOps P ops Q (i :: rest) a w :=
  wpO ho hw (by rw [hr]; exact h)
theorem wpO_panic {v : Value} (ho : ops[i]? = some o) (hw : Region.wanted o (yielded ops a.tmps) = true) (hr : (execOp a.eval o).run P w = .halt (.panic v) w') (h : Q (.panic [{ v, recovered := false }]) a w') : wpOps P ops Q (i :: rest) a w :=
  wpO ho hw (by rw [hr]; exact h)
theorem wpO_call {f : FuncId} {args : Array Value} {R : Value → World → Prop} (ho : ops[i]? = some o) (hw : Region.wanted o (yielded ops a.tmps) = true) (hr : (execOp a.eval o).run P w = .ok (.enter f args) w') (hc : CallsR P f args w' R) (h : ∀ v w'', R v w'' → wpOps P ops Q rest (a.put o.dst v) w'') : wpOps P ops Q (i :: rest) a w := by
  refine wpO ho hw ?_
  rw [hr]
  exact Calls.mono hc fun e w'' ⟨v, he, hv⟩ => by subst he; exact h v w'' hv
/-- a call that panics -/
theorem wpO_dies {f : FuncId} {args : Array Value} {R : List PanicEntry → World → Prop} (ho : ops[i]? = some o) (hw : Region.wanted o (yielded ops a.tmps) = true) (hr : (execOp a.eval o).run P w = .ok (.enter f args) w') (hc : Calls P f args w' fun e w'' => ∃ c, e = .panicked c ∧ R c w'') (h : ∀ c w'', R c w'' → Q (.panic c) a w'') : wpOps P ops Q (i :: rest) a w := by
  refine wpO ho hw ?_
  rw [hr]
  exact Calls.mono hc fun e w'' ⟨v, he, hv⟩ => by subst he; exact h v w'' hv
end
end Go.Proofs.Ytplpjikcgheiiaa

/- What comes in: slices of whatever, opened as lists. -/
namespace Go.Proofs.Ytplpjikcgheiiaa
open Go Xf Go.RowKit Go.ChangeShapes Go.WideShapes
set_option linter.unusedVariables false

section
variable {H : Type} {enc : TypeId × Value → H} {P : Program} {w : World} {held : Bool}

theorem rd_of_trod {t e : TypeId} {fuel : Nat} {v : Value} {x : DataW H × List MemPlace} (ht : P.underlying t = some (.slice e)) (he : P.underlying e = some (.int .u8)) (hc : P.cellsOf e = 1)
    (h : DataW.trod enc P w 0 (fun _ => true) held fuel t [v] = some x) : ∃ (l : List UInt8) (a : Option Addr) (c : Nat), v = .slice a l.length c ∧ l.length ≤ maxLen ∧ Rd w 1 v l.length (bytesV l) := by
  rcases open_ints ht he hc h with ⟨hcs, _⟩ | ⟨y, len, c, zs, hcs, _, hl, hm, hz, hx, hcell, hwz⟩
  · simp at hcs
    subst hcs
    exact ⟨[], none, 0, rfl, Nat.zero_le _, Rd.nil_ _ _⟩
  · simp at hcs
    subst hcs
    obtain ⟨l, h1, h2, h3⟩ := rd_of_nums (w := w) (a := some y) (len := len) (cap := c) (zs := zs) (.inr ⟨_, rfl, hl, hm, by simpa using hz, hcell, hwz⟩)
    exact ⟨l, some y, c, by rw [h1], h2, by rw [h1]; exact h3⟩

/-- a [][]byte that reads as the rows ls -/
def RdRows (w : World) (v : Value) (ls : List (List UInt8)) : Prop :=
  ∃ (a : Option Addr) (c : Nat), v = .slice a ls.length c ∧ ls.length ≤ maxLen ∧ ∀ i l, ls[i]? = some l → ∃ (q : Addr) (A : Option Addr) (cc : Nat), a = some q ∧ w.cell? (q.add i) = some (.slice A l.length cc) ∧ l.length ≤ maxLen ∧ Rd w 1 (.slice A l.length cc) l.length (bytesV l)

theorem rows_of_trod {t m e : TypeId} {fuel : Nat} {v : Value} {x : DataW H × List MemPlace} (ht : P.underlying t = some (.slice m)) (hm1 : P.cellsOf m = 1) (hm : P.underlying m = some (.slice e)) (he : P.underlying e = some (.int .u8)) (hc : P.cellsOf e = 1)
    (h : DataW.trod enc P w 0 (fun _ => true) held fuel t [v] = some x) : ∃ ls : List (List UInt8), RdRows w v ls := by
  rcases Deep.open_slice1 ht hm1 h with ⟨hcs, _⟩ | ⟨a, len, cap, mm, n, V, D, Pl, hcs, _, hl, hml, hmm, _, hx⟩
  · simp at hcs
    subst hcs
    exact ⟨[], none, 0, rfl, Nat.zero_le _, fun i l h => by simp at h⟩
  · simp at hcs
    subst hcs
    simp at hmm
    have hx' : ∀ i, i < len → ∃ l : List UInt8, w.cell? (a.add i) = some (V i) ∧ ∃ (A : Option Addr) (c : Nat), V i = .slice A l.length c ∧ l.length ≤ maxLen ∧ Rd w 1 (V i) l.length (bytesV l) := by
      intro i hi
      obtain ⟨h1, h2⟩ := hx i (by omega)
      obtain ⟨l, A, c, h3, h4, h5⟩ := rd_of_trod hm he hc h2
      exact ⟨l, h1, A, c, h3, h4, h5⟩
    obtain ⟨f, hf⟩ := Deep.choose_lt hx'
    refine ⟨(List.range len).map f, some a, cap, by simp, by simp; omega, fun i l hi => ?_⟩
    obtain ⟨hi1, hi2⟩ := List.getElem?_eq_some_iff.1 hi
    simp at hi1 hi2
    subst hi2
    obtain ⟨h1, A, c, h3, h4, h5⟩ := hf i hi1
    exact ⟨a, A, c, rfl, by rw [← h3]; exact h1, h4, by rw [← h3]; exact h5⟩
end
end Go.Proofs.Ytplpjikcgheiiaa
