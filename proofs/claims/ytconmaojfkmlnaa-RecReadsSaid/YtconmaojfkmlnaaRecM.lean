/- Records: what stands in them, when they may be, how they lie in memory. -/
import Derived.Test.YtconmaojfkmlnaaD
import Derived.Test.YtconmaojfkmlnaaF
import Derived.Test.YtconmaojfkmlnaaEq
import Derived.Test.YtconmaojfkmlnaaV
import Derived.Test.YtconmaojfkmlnaaEncQ
import Derived.Test.YtconmaojfkmlnaaCrcQ
namespace Go.Proofs.Ytconmaojfkmlnaa.Rec
open Go Go.Proofs.Ytconmaojfkmlnaa Xf Go.RowKit
set_option linter.unusedVariables false
set_option linter.unusedSimpArgs false
set_option maxRecDepth 100000

theorem bd {p q : Prop} [Decidable p] [Decidable q] (h : p ↔ q) : Value.bool (decide p) = .bool (decide q) := by simp [h]
theorem bt {p : Prop} [Decidable p] (h : p) : Value.bool true = .bool (decide p) := by simp [h]
theorem bf {p : Prop} [Decidable p] (h : ¬ p) : Value.bool false = .bool (decide p) := by simp [h]
theorem mk_nil {l : List UInt8} : ((⟨l.toArray⟩ : ByteArray) = ⟨#[]⟩) = (l = []) := by
  rw [show (⟨#[]⟩ : ByteArray) = ⟨([] : List UInt8).toArray⟩ from rfl, mk_inj]
theorem w64 {a : Int} (h0 : -9223372036854775808 ≤ a) (h1 : a < 9223372036854775808) : IntKind.wrap .i64 a = a := by
  rw [IntKind.wrap_i64]; omega

structure Tx where
  id : Int
  st : Int
  last : Nat
  deriving DecidableEq
structure Di where
  page : Int
  rc : Nat
  deriving DecidableEq
structure Re where
  kind : Int
  lsn : Nat
  txn : Int
  prev : Nat
  undo : Nat
  page : Int
  ak : Int
  key : List UInt8
  old : List UInt8
  new : List UInt8
  ts : List Tx
  ds : List Di
  deriving DecidableEq
def txV (t : Tx) : List Value := [.int .i64 t.id, .int .i64 t.st, .int .u64 (t.last : Nat)]
def diV (d : Di) : List Value := [.int .i64 d.page, .int .u64 (d.rc : Nat)]
def acV (k : Int) (a b c : List UInt8) : List Value := [.int .i64 k, .string ⟨a.toArray⟩, .string ⟨b.toArray⟩, .string ⟨c.toArray⟩]
def reV (r : Re) (vt vd : Value) : List Value := [.int .i64 r.kind, .int .u64 (r.lsn : Nat), .int .i64 r.txn, .int .u64 (r.prev : Nat), .int .u64 (r.undo : Nat), .int .i64 r.page,
  .int .i64 r.ak, .string ⟨r.key.toArray⟩, .string ⟨r.old.toArray⟩, .string ⟨r.new.toArray⟩, vt, vd]
def re0 : Re := ⟨0, 0, 0, 0, 0, 0, 0, [], [], [], [], []⟩
/-- a value reads a record -/
def RdRe (w : World) (v : Value) (r : Re) : Prop := ∃ vt vd, v = .agg (reV r vt vd).toArray ∧ RdS w txV 3 vt r.ts ∧ RdS w diV 2 vd r.ds
theorem RdRe.mono {w w' : World} {v : Value} {r : Re} (h : RdRe w v r) (hU : Upd w w' []) : RdRe w' v r := by
  obtain ⟨a, b, h1, h2, h3⟩ := h
  exact ⟨a, b, h1, h2.mono hU, h3.mono hU⟩

def numP (n : Nat) : Prop := 16 ≤ n ∧ n ≤ 1152921504606846991
instance (n : Nat) : Decidable (numP n) := by unfold numP; infer_instance
def pageP (p : Int) : Prop := 0 ≤ p ∧ p < 16
instance (n : Int) : Decidable (pageP n) := by unfold pageP; infer_instance
def txnP (t : Int) : Prop := 1 ≤ t ∧ t ≤ 1073741824
instance (n : Int) : Decidable (txnP n) := by unfold txnP; infer_instance
def actP (k : Int) (key old new : List UInt8) : Prop := 1 ≤ key.length ∧ key.length ≤ 16 ∧ old.length ≤ 32 ∧ new.length ≤ 32 ∧ ((k = 1 ∧ old = []) ∨ k = 2 ∨ (k = 3 ∧ new = []))
instance (k : Int) (a b c : List UInt8) : Decidable (actP k a b c) := by unfold actP; infer_instance
def chgP (k : Int) : Prop := k = 1 ∨ k = 2
instance (k : Int) : Decidable (chgP k) := by unfold chgP; infer_instance
def ptP (k : Int) : Prop := k = 7 ∨ k = 8
instance (k : Int) : Decidable (ptP k) := by unfold ptP; infer_instance
def txP (t : Tx) : Prop := txnP t.id ∧ 0 ≤ t.st ∧ t.st < 3 ∧ numP t.last
instance (t : Tx) : Decidable (txP t) := by unfold txP; infer_instance
def diP (d : Di) : Prop := pageP d.page ∧ numP d.rc
instance (d : Di) : Decidable (diP d) := by unfold diP; infer_instance
/-- each place of a list is right, seen with the one ahead of it -/
def upP {α : Type} (ok : α → Prop) (key : α → Int) (n : Nat) (l : List α) : Prop := ∀ i, i < n → ∀ x, l[i]? = some x → ok x ∧ ∀ y, 0 < i → l[i - 1]? = some y → key y < key x
def tabP (r : Re) : Prop := r.ts.length ≤ 64 ∧ r.ds.length ≤ 16 ∧ upP txP Tx.id r.ts.length r.ts ∧ upP diP Di.page r.ds.length r.ds
def okP (r : Re) : Prop := 0 < r.kind ∧ r.kind < 9 ∧ numP r.lsn ∧ r.prev < r.lsn ∧ r.undo < r.lsn ∧
  (if chgP r.kind then pageP r.page ∧ actP r.ak r.key r.old r.new else r.page = 0 ∧ r.ak = 0 ∧ r.key = [] ∧ r.old = [] ∧ r.new = []) ∧
  (if ptP r.kind then r.txn = 0 ∧ r.prev = 0 else txnP r.txn) ∧ (r.kind ≠ 8 → r.ts = [] ∧ r.ds = []) ∧ (r.kind ≠ 2 → r.undo = 0) ∧ tabP r
theorem upP_succ {α : Type} {ok : α → Prop} {key : α → Int} {n : Nat} {l : List α} (hn : n < l.length) : upP ok key (n + 1) l ↔ upP ok key n l ∧ ok l[n] ∧ ∀ h : 0 < n, key (l[n - 1]'(by omega)) < key l[n] := by
  constructor
  · intro h
    refine ⟨fun i hi => h i (by omega), ?_⟩
    obtain ⟨h1, h2⟩ := h n (by omega) _ (List.getElem?_eq_getElem hn)
    exact ⟨h1, fun h0 => h2 _ h0 (List.getElem?_eq_getElem (by omega))⟩
  · rintro ⟨h1, h2, h3⟩ i hi x hx
    by_cases h : i < n
    · exact h1 i h x hx
    · obtain rfl : i = n := by omega
      rw [List.getElem?_eq_getElem hn] at hx
      injection hx with hx
      subst hx
      refine ⟨h2, fun y h0 hy => ?_⟩
      rw [List.getElem?_eq_getElem (by omega)] at hy
      injection hy with hy
      subst hy
      exact h3 h0
theorem upP_of {α : Type} {ok : α → Prop} {key : α → Int} {n m : Nat} {l : List α} (h : upP ok key n l) (hm : m ≤ n) : upP ok key m l := fun i hi => h i (by omega)

/-! structs are the same -/
theorem eqF_tx (a b : Tx) (w : World) : (eqF3 9999 (txV a).toArray (txV b).toArray [(true, 3, 0), (true, 49, 1), (true, 26, 2)]).run Try.prog w = .ok (decide (a = b)) w := by
  have p0 : ∀ f : Tx, (part 3 (txV f).toArray 0).run Try.prog w = .ok (.int .i64 f.id) w := fun f => by kernel_rfl
  have p1 : ∀ f : Tx, (part 49 (txV f).toArray 1).run Try.prog w = .ok (.int .i64 f.st) w := fun f => by kernel_rfl
  have p2 : ∀ f : Tx, (part 26 (txV f).toArray 2).run Try.prog w = .ok (.int .u64 (f.last : Nat)) w := fun f => by kernel_rfl
  have e0 : ∀ x y : Int, (Op.equalIn 9999 3 (.int .i64 x) (.int .i64 y)).run Try.prog w = .ok (x == y) w := fun x y => run_equalIn_int w 9998 3 .i64 .i64 x y u3
  have e1 : ∀ x y : Int, (Op.equalIn 9999 49 (.int .i64 x) (.int .i64 y)).run Try.prog w = .ok (x == y) w := fun x y => run_equalIn_int w 9998 49 .i64 .i64 x y u49
  have e2 : ∀ x y : Nat, (Op.equalIn 9999 26 (.int .u64 (x : Nat)) (.int .u64 (y : Nat))).run Try.prog w = .ok (decide (x = y)) w := fun x y => by rw [run_equalIn_int w 9998 26 .u64 .u64 x y u26]; congr 1; by_cases h : x = y <;> simp [h]; omega
  simp only [eqF3, Sem.run_bind, p0, p1, p2, e0, e1, e2, Result.andThen_ok]
  obtain ⟨a0, a1, a2⟩ := a
  obtain ⟨b0, b1, b2⟩ := b
  simp only [Tx.mk.injEq]
  by_cases h0 : a0 = b0 <;> by_cases h1 : a1 = b1 <;> by_cases h2 : a2 = b2 <;> simp [h0, h1, h2, Sem.run_bind, e1, p0, p1, p2, e0, e2]
theorem tx_eq (a b : Tx) (w : World) : (∀ x y : Operand, (sBin .eql 51 x y (.agg (txV a).toArray) (.agg (txV b).toArray)).run Try.prog w = .ok (.value (.bool (decide (a = b)))) w) ∧ (∀ x y : Operand, (sBin .neq 51 x y (.agg (txV a).toArray) (.agg (txV b).toArray)).run Try.prog w = .ok (.value (.bool (!decide (a = b)))) w) :=
  run_eqS (l := [(true, 3, 0), (true, 49, 1), (true, 26, 2)]) (by kernel_rfl) (by kernel_rfl) (by kernel_rfl) (by kernel_rfl) (eqF_tx a b w)
theorem eqF_di (a b : Di) (w : World) : (eqF3 9999 (diV a).toArray (diV b).toArray [(true, 3, 0), (true, 26, 1)]).run Try.prog w = .ok (decide (a = b)) w := by
  have p0 : ∀ f : Di, (part 3 (diV f).toArray 0).run Try.prog w = .ok (.int .i64 f.page) w := fun f => by kernel_rfl
  have p2 : ∀ f : Di, (part 26 (diV f).toArray 1).run Try.prog w = .ok (.int .u64 (f.rc : Nat)) w := fun f => by kernel_rfl
  have e0 : ∀ x y : Int, (Op.equalIn 9999 3 (.int .i64 x) (.int .i64 y)).run Try.prog w = .ok (x == y) w := fun x y => run_equalIn_int w 9998 3 .i64 .i64 x y u3
  have e2 : ∀ x y : Nat, (Op.equalIn 9999 26 (.int .u64 (x : Nat)) (.int .u64 (y : Nat))).run Try.prog w = .ok (decide (x = y)) w := fun x y => by rw [run_equalIn_int w 9998 26 .u64 .u64 x y u26]; congr 1; by_cases h : x = y <;> simp [h]; omega
  simp only [eqF3, Sem.run_bind, p0, p2, e0, e2, Result.andThen_ok]
  obtain ⟨a0, a2⟩ := a
  obtain ⟨b0, b2⟩ := b
  simp only [Di.mk.injEq]
  by_cases h0 : a0 = b0 <;> by_cases h2 : a2 = b2 <;> simp [h0, h2, Sem.run_bind, p0, p2, e0, e2]
theorem di_eq (a b : Di) (w : World) : (∀ x y : Operand, (sBin .eql 53 x y (.agg (diV a).toArray) (.agg (diV b).toArray)).run Try.prog w = .ok (.value (.bool (decide (a = b)))) w) ∧ (∀ x y : Operand, (sBin .neq 53 x y (.agg (diV a).toArray) (.agg (diV b).toArray)).run Try.prog w = .ok (.value (.bool (!decide (a = b)))) w) :=
  run_eqS (l := [(true, 3, 0), (true, 26, 1)]) (by kernel_rfl) (by kernel_rfl) (by kernel_rfl) (by kernel_rfl) (eqF_di a b w)
theorem ba_eq (a b : List UInt8) : ((⟨a.toArray⟩ : ByteArray).toList == (⟨b.toArray⟩ : ByteArray).toList) = decide (a = b) := by
  by_cases h : a = b
  · subst h; simp
  · have : (⟨a.toArray⟩ : ByteArray).toList ≠ (⟨b.toArray⟩ : ByteArray).toList := by
      intro he
      apply h
      have h1 : ∀ l : List UInt8, (⟨l.toArray⟩ : ByteArray).toList = l := fun l => by rw [ByteArray.toList_eq]
      rw [h1, h1] at he; exact he
    simp [this, h]
theorem eqF_ac (k1 k2 : Int) (a1 b1 c1 a2 b2 c2 : List UInt8) (w : World) : (eqF3 9999 (acV k1 a1 b1 c1).toArray (acV k2 a2 b2 c2).toArray [(true, 27, 0), (true, 9, 1), (true, 9, 2), (true, 9, 3)]).run Try.prog w = .ok (decide (k1 = k2 ∧ a1 = a2 ∧ b1 = b2 ∧ c1 = c2)) w := by
  have p0 : ∀ k a b c, (part 27 (acV k a b c).toArray 0).run Try.prog w = .ok (.int .i64 k) w := fun _ _ _ _ => by kernel_rfl
  have p1 : ∀ k a b c, (part 9 (acV k a b c).toArray 1).run Try.prog w = .ok (.string ⟨a.toArray⟩) w := fun _ _ _ _ => by kernel_rfl
  have p2 : ∀ k a b c, (part 9 (acV k a b c).toArray 2).run Try.prog w = .ok (.string ⟨b.toArray⟩) w := fun _ _ _ _ => by kernel_rfl
  have p3 : ∀ k a b c, (part 9 (acV k a b c).toArray 3).run Try.prog w = .ok (.string ⟨c.toArray⟩) w := fun _ _ _ _ => by kernel_rfl
  have e0 : ∀ x y : Int, (Op.equalIn 9999 27 (.int .i64 x) (.int .i64 y)).run Try.prog w = .ok (x == y) w := fun x y => run_equalIn_int w 9998 27 .i64 .i64 x y u27
  have e1 : ∀ x y : List UInt8, (Op.equalIn 9999 9 (.string ⟨x.toArray⟩) (.string ⟨y.toArray⟩)).run Try.prog w = .ok (decide (x = y)) w := fun x y => by rw [run_equalIn_string w 9998 9 _ _ u9, ba_eq]
  simp only [eqF3, Sem.run_bind, p0, p1, p2, p3, e0, e1, Result.andThen_ok]
  by_cases h0 : k1 = k2 <;> by_cases h1 : a1 = a2 <;> by_cases h2 : b1 = b2 <;> by_cases h3 : c1 = c2 <;> simp [h0, h1, h2, h3, Sem.run_bind, e1, p0, p1, p2, p3, e0]
theorem ac_eq (k1 k2 : Int) (a1 b1 c1 a2 b2 c2 : List UInt8) (w : World) : (∀ x y : Operand, (sBin .eql 29 x y (.agg (acV k1 a1 b1 c1).toArray) (.agg (acV k2 a2 b2 c2).toArray)).run Try.prog w = .ok (.value (.bool (decide (k1 = k2 ∧ a1 = a2 ∧ b1 = b2 ∧ c1 = c2)))) w) ∧
    (∀ x y : Operand, (sBin .neq 29 x y (.agg (acV k1 a1 b1 c1).toArray) (.agg (acV k2 a2 b2 c2).toArray)).run Try.prog w = .ok (.value (.bool (!decide (k1 = k2 ∧ a1 = a2 ∧ b1 = b2 ∧ c1 = c2)))) w) :=
  run_eqS (l := [(true, 27, 0), (true, 9, 1), (true, 9, 2), (true, 9, 3)]) (by kernel_rfl) (by kernel_rfl) (by kernel_rfl) (by kernel_rfl) (eqF_ac k1 k2 a1 b1 c1 a2 b2 c2 w)
structure At (w : World) (g : Nat) (r : Re) (vt vd : Value) : Prop where
  c0 : w.cell? ⟨g, 0, none⟩ = some (.int .i64 r.kind)
  c1 : w.cell? ⟨g, 1, none⟩ = some (.int .u64 (r.lsn : Nat))
  c2 : w.cell? ⟨g, 2, none⟩ = some (.int .i64 r.txn)
  c3 : w.cell? ⟨g, 3, none⟩ = some (.int .u64 (r.prev : Nat))
  c4 : w.cell? ⟨g, 4, none⟩ = some (.int .u64 (r.undo : Nat))
  c5 : w.cell? ⟨g, 5, none⟩ = some (.int .i64 r.page)
  c6 : w.cell? ⟨g, 6, none⟩ = some (.int .i64 r.ak)
  c7 : w.cell? ⟨g, 7, none⟩ = some (.string ⟨r.key.toArray⟩)
  c8 : w.cell? ⟨g, 8, none⟩ = some (.string ⟨r.old.toArray⟩)
  c9 : w.cell? ⟨g, 9, none⟩ = some (.string ⟨r.new.toArray⟩)
  c10 : w.cell? ⟨g, 10, none⟩ = some vt
  c11 : w.cell? ⟨g, 11, none⟩ = some vd
abbrev reO (r : Re) (vt vd : Value) : Obj := .cells (reV r vt vd).toArray 33 (0, 0)
theorem At.of {w : World} {g : Nat} {r : Re} {vt vd : Value} (h : w.heap[g]? = some (reO r vt vd)) : At w g r vt vd :=
  ⟨cell_at h, cell_at h, cell_at h, cell_at h, cell_at h, cell_at h, cell_at h, cell_at h, cell_at h, cell_at h, cell_at h, cell_at h⟩
theorem run_re {w : World} {g : Nat} {r : Re} {vt vd : Value} (h : w.heap[g]? = some (reO r vt vd)) : (sLoad 33 (.pointer (some ⟨g, 0, none⟩))).run Try.prog w = .ok (.value (.agg (reV r vt vd).toArray)) w :=
  run_sLoad (run_loadVarN (cs := reV r vt vd) ag33 (by rw [sz33]; rfl) (cells_read h))
theorem run_ac {w : World} {g : Nat} {r : Re} {vt vd : Value} (h : w.heap[g]? = some (reO r vt vd)) : (sLoad 29 (.pointer (some ⟨g, 6, none⟩))).run Try.prog w = .ok (.value (.agg (acV r.ak r.key r.old r.new).toArray)) w := by
  refine run_sLoad (run_loadVarN (cs := acV r.ak r.key r.old r.new) ag29 (by rw [sz29]; rfl) fun j v hj => ?_)
  rw [add_mk, cell_at h]
  match j, hj with
  | 0, hj => exact hj
  | 1, hj => exact hj
  | 2, hj => exact hj
  | 3, hj => exact hj
  | n + 4, hj => simp [acV] at hj
/-- one of the structs of a slice, in a later world -/
theorem row_at {α : Type} {w : World} {A : Option Addr} {n c k : Nat} {f : α → List Value} {l : List α} (hf : ∀ x, (f x).length = k) (hk : 0 < k) (hr : Rd w k (.slice A n c) n (l.flatMap f)) {i : Nat} (hi : i < l.length) :
    ∃ a, A = some a ∧ ∀ w', Upd w w' [] → ∀ j u, (f l[i])[j]? = some u → w'.cell? ((a.add (i * k)).add j) = some u := by
  obtain ⟨a, ha, h⟩ := Rd.row hf hk hr hi
  refine ⟨a, ha, fun w' hU j u hu => ?_⟩
  have := h w' hU j u hu
  rw [show ((i : Nat) : Int).toNat = i by omega] at this
  rw [add_add']; exact this
theorem run_tx {w : World} {a : Addr} {t : Tx} (h : ∀ j u, (txV t)[j]? = some u → w.cell? (a.add j) = some u) : (sLoad 51 (.pointer (some a))).run Try.prog w = .ok (.value (.agg (txV t).toArray)) w :=
  run_sLoad (run_loadVarN (cs := txV t) ag51 (by rw [sz51]; rfl) h)
theorem run_di {w : World} {a : Addr} {t : Di} (h : ∀ j u, (diV t)[j]? = some u → w.cell? (a.add j) = some u) : (sLoad 53 (.pointer (some a))).run Try.prog w = .ok (.value (.agg (diV t).toArray)) w :=
  run_sLoad (run_loadVarN (cs := diV t) ag53 (by rw [sz53]; rfl) h)
abbrev txO (t : Tx) : Obj := .cells (txV t).toArray 51 (0, 0)
abbrev diO (t : Di) : Obj := .cells (diV t).toArray 53 (0, 0)
/-- a row into a new variable -/
theorem st_tx {w W : World} {h : List (Nat × Obj)} {K : Value → World → Prop} (hU : Upd W w []) (hO : Owns w h) (i : Nat) {g : Nat} {x y z : Value} {t : Tx} (hi : h[i]? = some (g, .cells #[x, y, z] 51 (0, 0))) (hg : W.heap.size ≤ g)
    (hk : ∀ w', Upd W w' [] → Owns w' (h.set i (g, txO t)) → K undef w') : (std Try.prog).step (sStore 51 (.pointer (some ⟨g, 0, none⟩)) (.agg (txV t).toArray)) w K := by
  refine st_storeN (vs := txV t) (by rw [sz51]; rfl) hU hO i hi (by simp [txV]) (by intro u hu; simp [txV] at hu; rcases hu with rfl | rfl | rfl <;> rfl) (.inr hg) ?_
  exact fun w' hU' hO' => hk w' hU' hO'
theorem st_di {w W : World} {h : List (Nat × Obj)} {K : Value → World → Prop} (hU : Upd W w []) (hO : Owns w h) (i : Nat) {g : Nat} {x y : Value} {t : Di} (hi : h[i]? = some (g, .cells #[x, y] 53 (0, 0))) (hg : W.heap.size ≤ g)
    (hk : ∀ w', Upd W w' [] → Owns w' (h.set i (g, diO t)) → K undef w') : (std Try.prog).step (sStore 53 (.pointer (some ⟨g, 0, none⟩)) (.agg (diV t).toArray)) w K := by
  refine st_storeN (vs := diV t) (by rw [sz53]; rfl) hU hO i hi (by simp [diV]) (by intro u hu; simp [diV] at hu; rcases hu with rfl | rfl <;> rfl) (.inr hg) ?_
  exact fun w' hU' hO' => hk w' hU' hO'
end Go.Proofs.Ytconmaojfkmlnaa.Rec
