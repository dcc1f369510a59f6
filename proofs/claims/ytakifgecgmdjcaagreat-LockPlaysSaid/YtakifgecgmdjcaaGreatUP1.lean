/- Texts of this work, put together: Xf. -/
import Derived.Orders
import Derived.Tactics
import Derived.Scope
import Derived.Laws.World
/- A frame for walks: a function's code is read as one statement about values and worlds, without slots; it is shown once that the statement suffices. -/
namespace Go.Proofs.YtakifgecgmdjcaaGreat.Xf
open Go
set_option linter.unusedVariables false

section
variable (P : Program)

/-- The call returns, and k holds of what it returns. -/
def CallsR (f : FuncId) (args : Array Value) (w : World) (k : Value → World → Prop) : Prop :=
  Calls P f args w fun e w' => ∃ v, e = .returned v ∧ k v w'

theorem CallsR.mono {P : Program} {f : FuncId} {args : Array Value} {w : World} {k k' : Value → World → Prop} (h : CallsR P f args w k) (hk : ∀ v w', k v w' → k' v w') : CallsR P f args w k' :=
  Calls.mono h fun _ _ ⟨v, he, hv⟩ => ⟨v, he, hk _ _ hv⟩

/-- One operation. -/
def StepX (s : Sem Next) (w : World) (k : Value → World → Prop) : Prop :=
  match s.run P w with
  | .ok (.value v) w' => k v w'
  | .ok .skip w' => k undef w'
  | .ok (.enter f args) w' => CallsR P f args w' k
  | _ => False

theorem StepX.mono {P : Program} {s : Sem Next} {w : World} {k k' : Value → World → Prop} (h : StepX P s w k) (hk : ∀ v w', k v w' → k' v w') : StepX P s w k' := by
  unfold StepX at *
  split at h
  · exact hk _ _ h
  · exact hk _ _ h
  · exact CallsR.mono h hk
  · exact h

/-- An operation that yields one value in every world that meets S, and leaves that world as it is. -/
def StepS (S : World → Prop) (s : Sem Next) (k : Value → Prop) : Prop :=
  ∃ v, (∀ w, S w → s.run P w = .ok (.value v) w) ∧ k v

/-- A test. -/
def BoolX (v : Value) (kt kf : Prop) : Prop := (∃ b, v = .bool b) ∧ (v = .bool true → kt) ∧ (v = .bool false → kf)

theorem BoolX.imp {v : Value} {a b a' b' : Prop} (h : BoolX v a b) (ha : v = .bool true → a → a') (hb : v = .bool false → b → b') : BoolX v a' b' :=
  ⟨h.1, fun e => ha e (h.2.1 e), fun e => hb e (h.2.2 e)⟩

def KeepT (w : World) (k : (World → Prop) → Prop) : Prop := ∃ S : World → Prop, S w ∧ k S
def KeepS (S : World → Prop) (w : World) (k : (World → Prop) → Prop) : Prop := ∃ S' : World → Prop, (∀ w, S' w → S w) ∧ S' w ∧ k S'

def getA (a : Act) (t : Nat) : Value := a.tmps.getD t undef

def isGuard (ops : Array Oper) (j : Nat) : Bool := ops.toList.any fun o => match o.guard with | some (g, _) => g == j | none => false

def after (g : Bool) (o : Oper) (a : Act) (v : Value) (k : Act → Prop) : Prop :=
  match g with
  | true => BoolX v (k (a.put o.dst (.bool true))) (k (a.put o.dst (.bool false)))
  | false => k (a.put o.dst v)

def sV (s : Sem Value) : Sem Next := do pure (.value (← s))
def sU (s : Sem Unit) : Sem Next := do s; pure .skip

def sNil (v : Value) : Sem Next := execOp (fun _ => v) { dst := none, op := .nilCheck (.tmp 0), type := 0, pos := "", after := #[], guard := none }
def sPick (c a b : Value) : Sem Next := do pure (.value (if ← asBool c then a else b))
def sBin (op : BinOp) (t : TypeId) (x y : Operand) (a b : Value) : Sem Next := sV (do eqGuard op t x y a b; binOp op t a b)
def sUn (op : UnOp) (v : Value) : Sem Next := sV (Op.unary op v)
def sConv (s d : TypeId) (v : Value) : Sem Next := sV (convert s d v)
def sAlloc (t : TypeId) : Sem Next := sV (Instr.alloc t true (.tuple #[]))
def sBox (t : TypeId) (v : Value) : Sem Next := sV (Instr.box t v)
def sBuild (t : TypeId) (ps : List (Nat × Value)) : Sem Next := sV (Instr.build t ps.toArray)
def sBuildSlice (t : TypeId) (n : Nat) (ps : List (Nat × Value)) : Sem Next := sV (Instr.buildSlice t n ps.toArray)
def sLoad (t : TypeId) (v : Value) : Sem Next := sV (Instr.loadAt t v)
def sStore (t : TypeId) (a v : Value) : Sem Next := sU (Instr.storeAt t a v)
def sFieldAddr (t : TypeId) (v : Value) (i : Nat) : Sem Next := sV (Instr.fieldAt t v i)
def sField (t : TypeId) (v : Value) (i : Nat) : Sem Next := sV (Instr.field t v i)
def sIndexAddr (t : TypeId) (v i : Value) : Sem Next := sV (Instr.indexAt t v i)
def sIndex (t : TypeId) (v i : Value) : Sem Next := sV (Instr.index t v i)
def sSlice (t : TypeId) (v : Value) (lo hi mx : Option Value) : Sem Next := sV (Instr.sliceAt t v lo hi mx)
def sExtract (v : Value) (i : Nat) : Sem Next := sV (Instr.extract v i)
def sMakeSlice (t : TypeId) (l c : Value) : Sem Next := sV (Instr.makeSlice t l c)
def sMakeFunc (fn : Fn) (f c : List Value) : Sem Next := sV (Instr.makeFunc fn f.toArray c.toArray)
def sBuiltin (b : Builtin) (ats : Array TypeId) (ty : TypeId) (consts : List Bool) (args : List Value) : Sem Next := builtin b ats ty consts.toArray args.toArray
def sCallV (f : Value) (args : List Value) : Sem Next := do let d ← Deferred.ofValue f args.toArray; invoke d.target d.args

def sMakeMap (t : TypeId) (r : Option Value) : Sem Next := sV (Instr.makeMap t r)
def sLookup (t : TypeId) (m k : Value) (ok : Bool) : Sem Next := sV (Instr.lookup t m k ok)
def sMapUpdate (t : TypeId) (m k v : Value) : Sem Next := sU (Instr.mapUpdate t m k v)
def sMapEntry (t : TypeId) (m k : Value) : Sem Next := sV (Instr.mapEntry t m k)
def sEntryStore (t : TypeId) (m s v : Value) : Sem Next := sU (Instr.entryStore t m s v)
def sRange (t : TypeId) (v : Value) : Sem Next := sV (Instr.range t v)
def sNext (it : Value) (isString : Bool) (ty : TypeId) : Sem Next := sV (Instr.next it isString ty)
def sEntry (it : Value) : Sem Next := sV (Instr.entry it)
def sIface (t : TypeId) (v : Value) : Sem Next := sV (Instr.makeInterface t v)
def sInvoke (r : Value) (m : String) (args : List Value) : Sem Next := do let d ← (pure { target := .fn (.method m) #[], args := #[r] ++ args.toArray } : Sem Deferred); invoke d.target d.args

def isConstO : Operand → Bool
  | .const _ => true
  | _ => false

/-- What an operation does, its operands read off the frame ('execOp', its arrays as lists). -/
def semX (a : Act) (o : Oper) : Sem Next :=
  match o.op with
  | .pick c x y => sPick (a.eval c) (a.eval x) (a.eval y)
  | .alloc t => sAlloc t
  | .box t x => sBox t (a.eval x)
  | .build t parts => sBuild t (parts.toList.map fun p => (p.1, a.eval p.2))
  | .buildSlice t n parts => sBuildSlice t n (parts.toList.map fun p => (p.1, a.eval p.2))
  | .load t x => sLoad t (a.eval x)
  | .store t x y => sStore t (a.eval x) (a.eval y)
  | .nilCheck x => sNil (a.eval x)
  | .binOp op t x y _ => sBin op t x y (a.eval x) (a.eval y)
  | .unOp op _ x => sUn op (a.eval x)
  | .convert s d x => sConv s d (a.eval x)
  | .makeFunc fn first captured => sMakeFunc fn (first.toList.map a.eval) (captured.toList.map a.eval)
  | .makeSlice t l c => sMakeSlice t (a.eval l) (a.eval c)
  | .slice t x lo hi mx => sSlice t (a.eval x) (lo.map a.eval) (hi.map a.eval) (mx.map a.eval)
  | .fieldAddr t x f => sFieldAddr t (a.eval x) f
  | .field t x f => sField t (a.eval x) f
  | .indexAddr t x ix => sIndexAddr t (a.eval x) (a.eval ix)
  | .index t x ix => sIndex t (a.eval x) (a.eval ix)
  | .extract x i => sExtract (a.eval x) i
  | .call ⟨.builtin b, args, argTypes⟩ => sBuiltin b argTypes o.type (args.toList.map isConstO) (args.toList.map a.eval)
  | .call ⟨.value f, args, _⟩ => sCallV (a.eval f) (args.toList.map a.eval)
  | .call ⟨.invoke r m, args, _⟩ => sInvoke (a.eval r) m (args.toList.map a.eval)
  | .makeInterface t x => sIface t (a.eval x)
  | .makeMap t r => sMakeMap t (r.map a.eval)
  | .lookup t m k ok => sLookup t (a.eval m) (a.eval k) ok
  | .mapUpdate t m k v => sMapUpdate t (a.eval m) (a.eval k) (a.eval v)
  | .insert t m k v => sMapUpdate t (a.eval m) (a.eval k) (a.eval v)
  | .mapEntry t m k => sMapEntry t (a.eval m) (a.eval k)
  | .entryStore t m s v => sEntryStore t (a.eval m) (a.eval s) (a.eval v)
  | .range t x => sRange t (a.eval x)
  | .next it b => sNext (a.eval it) b o.type
  | .entry it => sEntry (a.eval it)
  | _ => execOp a.eval o

def callable (f : FuncId) : Bool :=
  match P.funcs[f]? with
  | some fn => !(fn.name == "runtime.NumGoroutine") && fn.body.isSome
  | none => false

def opX (o : Oper) (a : Act) (w : World) (K : Value → World → Prop) : Prop :=
  match o.op with
  | .move x => K (a.eval x) w
  | .assign x => K (a.eval x) w
  | .call ⟨.value (.func f), args, _⟩ => match callable P f with
    | true => CallsR P f (args.toList.map a.eval).toArray w K
    | false => False
  | _ => StepX P (semX a o) w K

def listX (ops : Array Oper) (Q : Act → World → Prop) : Nat → List Oper → Act → World → Prop
  | _, [], a, w => Q a w
  | i, o :: rest, a, w =>
    match Region.wanted o (yielded ops a.tmps) with
    | true => opX P o a w fun v w' => after (isGuard ops i) o a v fun a' => listX ops Q (i + 1) rest a' w'
    | false => listX ops Q (i + 1) rest (a.put o.dst undef) w

/-! regions that draw their order -/

def isFl (o : Oper) : Bool :=
  match o.op with
  | .move _ | .assign _ | .pick .. | .load .. | .nilCheck _ | .binOp .. | .unOp .. | .slice .. | .fieldAddr .. | .field .. | .indexAddr .. | .index .. | .extract .. | .makeFunc .. => true
  | .convert s d _ => match P.underlying s, P.underlying d with
    | some .string, some (.slice _) => false
    | _, _ => true
  | .call { callee := .builtin .len, .. } | .call { callee := .builtin .cap, .. } | .call { callee := .builtin .min, .. } | .call { callee := .builtin .max, .. } => true
  | _ => false

def readyL (ops : Array Oper) (listed : Array Bool) : List Nat :=
  (List.range ops.size).filter fun i => !listed.getD i true && match ops[i]? with
    | some o => o.after.toList.all fun e => !Region.binds .any e || listed.getD e.on false
    | none => false

/-- The slots that an operation reads, as a list. -/
def tmpsOf (l : List Operand) : List Tmp := l.filterMap fun | .tmp t => some t | _ => none
def opL : Op → List Operand
  | .call ⟨.value f, args, _⟩ => f :: args.toList
  | .call ⟨.invoke r _, args, _⟩ => r :: args.toList
  | .call ⟨.builtin _, args, _⟩ => args.toList
  | .build _ ps => ps.toList.map (·.2)
  | .buildSlice _ _ ps => ps.toList.map (·.2)
  | .makeFunc _ first captured => first.toList ++ captured.toList
  | .slice _ x l h m => x :: (l.toList ++ h.toList ++ m.toList)
  | op => op.operands.toList
def looksL (ops : Array Oper) (o : Oper) : List Tmp :=
  tmpsOf (opL o.op) ++ (match o.guard with | some (g, _) => ((ops[g]?).bind (·.dst)).toList | none => [])
def apartL (ops : Array Oper) (x y : Oper) : Bool :=
  (match x.dst with | some d => !(looksL ops y).contains d && y.dst != some d | none => true) &&
  (match y.dst with | some d => !(looksL ops x).contains d | none => true)
def freeL (ops : Array Oper) (listed : Array Bool) (i : Nat) : Bool :=
  match ops[i]? with
  | none => false
  | some oi => (List.range ops.size).all fun j => j == i || listed.getD j true || match ops[j]? with
      | some oj => oj.after.toList.any (fun e => Region.binds .any e && e.on == i) || apartL ops oi oj
      | none => true
def noSelectL (ops : Array Oper) : Bool := ops.toList.all fun o => match o.op with | .select .. => false | _ => true

/-- d waits for i, by a chain of at most 'fuel' edges. -/
def reachB (ops : Array Oper) (i : Nat) : Nat → Nat → Bool
  | 0, _ => false
  | fuel + 1, d => match ops[d]? with
    | some o => o.after.toList.any fun e => Region.binds .any e && (e.on == i || reachB ops i fuel e.on)
    | none => false

/-- number i waits for all operations that were taken first. -/
def lastB (ops : Array Oper) (took : List Nat) (i : Nat) : Bool := took.all fun f => reachB ops f ops.size i

/-- operations that yield the same in every world: who takes one first need not think of it again -/
def pureL (ops : Array Oper) (i : Nat) : Bool :=
  match ops[i]? with
  | some o => match o.op with
    | .move _ | .assign _ => true
    | .binOp .sub _ _ (.const _) _ => true
    | _ => false
  | none => false
def tookP (ops : Array Oper) (i : Nat) (took : List Nat) : List Nat :=
  match pureL ops i with
  | true => took
  | false => i :: took
def stP (ops : Array Oper) (i : Nat) (S : World → Prop) : World → Prop :=
  match pureL ops i with
  | true => fun _ => True
  | false => S

def flX (ops : Array Oper) (i : Nat) (S : World → Prop) (a : Act) (K : Act → Prop) : Prop :=
  match ops[i]? with
  | none => False
  | some o =>
    match Region.wanted o (yielded ops a.tmps) with
    | true => match o.op with
      | .move x => after (isGuard ops i) o a (a.eval x) K
      | .assign x => after (isGuard ops i) o a (a.eval x) K
      | _ => StepS P S (semX a o) fun v => after (isGuard ops i) o a v K
    | false => K (a.put o.dst undef)

def chX (ops : Array Oper) (last : Bool) (i : Nat) (S : World → Prop) (a : Act) (w : World) (K : Act → World → (World → Prop) → Prop) : Prop :=
  match ops[i]? with
  | none => False
  | some o =>
    match Region.wanted o (yielded ops a.tmps) with
    | true => opX P o a w fun v w' => match last with
      | true => KeepT w' fun S' => after (isGuard ops i) o a v fun a' => K a' w' S'
      | false => KeepS S w' fun S' => after (isGuard ops i) o a v fun a' => K a' w' S'
    | false => K (a.put o.dst undef) w S

def flAt (ops : Array Oper) (listed : Array Bool) (a : Act) (i : Nat) : Bool :=
  match ops[i]? with
  | some o => (isFl P o || !Region.wanted o (yielded ops a.tmps)) && freeL ops listed i
  | none => false

def allX (rs : List Nat) (K : Nat → Prop) : Prop :=
  match rs with
  | [] => True
  | [i] => K i
  | i :: rs => K i ∧ allX rs K

def treeX (ops : Array Oper) (Q : Act → World → Prop) : Nat → Array Bool → List Nat → (World → Prop) → Act → World → Prop
  | 0, listed, _, _, a, w => match readyL ops listed with
    | [] => Q a w
    | _ :: _ => False
  | fuel + 1, listed, took, S, a, w => match readyL ops listed with
    | [] => Q a w
    | r :: rs => match (r :: rs).find? (flAt P ops listed a) with
      | some i => flX P ops i (stP ops i S) a fun a' => treeX ops Q fuel (listed.setIfInBounds i true) (tookP ops i took) S a' w
      | none => allX (r :: rs) fun i => chX P ops (lastB ops took i) i S a w fun a' w' S' => treeX ops Q fuel (listed.setIfInBounds i true) took S' a' w'

def DrawP (w : World) (k : (World → Prop) → World → Prop) : Prop := ∃ S : World → Prop, S w.drew ∧ k S w.drew

def DrawX (ops : Array Oper) (Q : Act → World → Prop) (a : Act) (w : World) : Prop :=
  match noSelectL ops with
  | true => DrawP w fun S w' => treeX P ops Q ops.size (Array.replicate ops.size false) [] S a w'
  | false => False

/-! loops -/

def uniq (ds : List Nat) : List Nat := ds.foldr (fun d acc => match acc.contains d with | true => acc | false => d :: acc) []
def nodupB : List Nat → Bool
  | [] => true
  | d :: ds => !ds.contains d && nodupB ds
def loopOk (ds : List Nat) (n : Nat) : Bool := ds.all (fun d => Nat.blt d n) && nodupB ds

def putV (vs : List Value) : List Nat → Nat → Act → Act
  | [], _, a => a
  | d :: ds, j, a => putV vs ds (j + 1) (a.put (some d) (vs.getD j undef))

def LoopV (init : List Value) (w : World) (body : (Nat → Value) → List Value → World → (List Value → World → Prop) → Prop) : Prop :=
  ∃ (I : List Value → World → Prop) (μ : List Value → World → Nat), I init w ∧ ∀ dv vs w, vs.length = init.length → I vs w → body dv vs w fun vs' w' => I vs' w' ∧ μ vs' w' < μ vs w

def putD (dv : Nat → Value) : List Nat → Act → Act
  | [], a => a
  | d :: ds, a => putD dv ds (a.put (some d) (dv d))

def dsts : Code → List Nat
  | .region _ ops _ => ops.toList.filterMap (·.dst)
  | .seq a b => dsts a ++ dsts b
  | .cond _ a b => dsts a ++ dsts b
  | .block _ c => dsts c
  | .loop c => dsts c
  | .scope c => dsts c
  | _ => []


def evs : Code → List (List Nat × List Nat)
  | .region _ ops _ => ops.toList.map fun o => (looksL ops o, o.dst.toList)
  | .seq a b => evs a ++ evs b
  | .cond c a b => (tmpsOf [c], []) :: (evs a ++ evs b)
  | .block _ c => evs c
  | .loop c => evs c
  | .scope c => evs c
  | _ => []

def readFirst (d : Nat) : List (List Nat × List Nat) → Bool
  | [] => false
  | (r, wr) :: l => match r.contains d with
    | true => true
    | false => match wr.contains d with
      | true => false
      | false => readFirst d l

def live (nb : Nat) (c : Code) (ds : List Nat) : List Nat := ds.filter fun d => Nat.blt d nb || readFirst d (evs c)

def LoopX (ds ls : List Nat) (a : Act) (w : World) (body : Act → World → (Act → World → Prop) → Prop) : Prop :=
  match loopOk ds a.tmps.size with
  | true => LoopV (ls.map (getA a)) w fun dv vs w' again => body (putV vs ls 0 (putD dv ds a)) w' fun a'' w'' => again (ls.map (getA a'')) w''
  | false => False

def X (nb : Nat) : Code → (Exit → Act → World → Prop) → Act → World → Prop
  | .skip, Q, a, w => Q .normal a w
  | .label _, Q, a, w => Q .normal a w
  | .ret, Q, a, w => Q .ret a w
  | .exit id, Q, a, w => Q (.exit id) a w
  | .seq c d, Q, a, w => X nb c (Exit.then (X nb d Q) Q) a w
  | .cond c t e, Q, a, w => BoolX (a.eval c) (X nb t Q a w) (X nb e Q a w)
  | .block id c, Q, a, w => X nb c (Exit.inBlock id Q) a w
  | .loop c, Q, a, w => LoopX (uniq (dsts c)) (live nb c (uniq (dsts c))) a w fun a' w' again => X nb c (Exit.then again Q) a' w'
  | .scope c, Q, a, w => X nb c (Exit.noGoto Q) a w
  | .region _ ops draw, Q, a, w => match draw with
    | false => listX P ops (Q .normal) 0 ops.toList a w
    | true => DrawX P ops (Q .normal) a w
  | _, _, _, _ => False

/-! results -/

def LoadR (t : TypeId) (v : Value) (w : World) (k : Value → Prop) : Prop :=
  ∃ u, (do loadVar t (← asAddr v) : Sem Value).run P w = .ok u w ∧ k u

def oneOf : List Value → Value
  | [v] => v
  | vs => .tuple vs.toArray

def resV (Q : Value → World → Prop) (a : Act) (w : World) : List ResultVar → List Value → Prop
  | [], acc => Q (oneOf acc) w
  | .tmp t :: rs, acc => resV Q a w rs (acc ++ [getA a t])
  | .cell t ty :: rs, acc => LoadR P ty (getA a t) w fun v => resV Q a w rs (acc ++ [v])

def retX (fn : Func) (Q : Value → World → Prop) : Exit → Act → World → Prop
  | .ret, a, w => match a.defers with
    | [] => resV P Q a w fn.results.toList []
    | _ :: _ => False
  | .normal, a, w => match a.defers with
    | [] => resV P Q a w fn.results.toList []
    | _ :: _ => False
  | _, _, _ => False

/-- The whole function. -/
def FunX (nb : Nat) (fn : Func) (args : Array Value) (w : World) (Q : Value → World → Prop) : Prop :=
  match fn.body with
  | some c => X P nb c (retX P fn Q) { tmps := args ++ Array.replicate (fn.ntmps - args.size) undef, defers := [] } w
  | none => False
end

/-! ### that it suffices -/

section
variable {P : Program}

def Agree (ds : List Nat) (a a' : Act) : Prop := a'.defers = a.defers ∧ a'.tmps.size = a.tmps.size ∧ ∀ i, i ∉ ds → a'.tmps[i]? = a.tmps[i]?

theorem Agree.refl (ds : List Nat) (a : Act) : Agree ds a a := ⟨rfl, rfl, fun _ _ => rfl⟩
theorem Agree.mono {ds ds' : List Nat} {a a' : Act} (h : Agree ds a a') (hs : ∀ d ∈ ds, d ∈ ds') : Agree ds' a a' := ⟨h.1, h.2.1, fun i hi => h.2.2 i fun hd => hi (hs i hd)⟩
theorem Agree.trans {ds : List Nat} {a b c : Act} (h : Agree ds a b) (k : Agree ds b c) : Agree ds a c := ⟨k.1.trans h.1, k.2.1.trans h.2.1, fun i hi => (k.2.2 i hi).trans (h.2.2 i hi)⟩
theorem Agree.put {ds : List Nat} {a b : Act} (h : Agree ds a b) {o : Option Nat} (v : Value) (ho : ∀ d, o = some d → d ∈ ds) : Agree ds a (b.put o v) := by
  cases o with
  | none => exact h
  | some d =>
    refine ⟨h.1, ?_, fun i hi => ?_⟩
    · simp [Act.put, h.2.1]
    · have hne : d ≠ i := fun e => hi (e ▸ ho d rfl)
      simp only [Act.put, Array.getElem?_setIfInBounds_ne hne]
      exact h.2.2 i hi

theorem after_out {g : Bool} {o : Oper} {a : Act} {v : Value} {k : Act → Prop} (h : after g o a v k) : k (a.put o.dst v) := by
  cases g with
  | false => exact h
  | true =>
    obtain ⟨⟨b, rfl⟩, ht, hf⟩ := h
    cases b
    · exact hf rfl
    · exact ht rfl

theorem after_mono {g : Bool} {o : Oper} {a : Act} {v : Value} {k k' : Act → Prop} (h : after g o a v k) (hk : ∀ v, k (a.put o.dst v) → k' (a.put o.dst v)) : after g o a v k' := by
  cases g with
  | false => exact hk _ h
  | true => exact BoolX.imp h (fun _ => hk _) (fun _ => hk _)

theorem opX_mono {o : Oper} {a : Act} {w : World} {K K' : Value → World → Prop} (h : opX P o a w K) (hk : ∀ v w', K v w' → K' v w') : opX P o a w K' := by
  unfold opX at *
  split at h
  · exact hk _ _ h
  · exact hk _ _ h
  · split at h
    · exact CallsR.mono h hk
    · exact h
  · exact StepX.mono h hk

theorem semX_eq (a : Act) (o : Oper) : semX a o = execOp a.eval o := by
  obtain ⟨dst, op, type, pos, after, guard⟩ := o
  have h1 : ∀ ps : Array (Nat × Operand), (ps.toList.map fun p => (p.1, a.eval p.2)).toArray = ps.map fun (i, x) => (i, a.eval x) := fun ps => by
    rw [← Array.toList_map]
  have h2 : ∀ xs : Array Operand, (xs.toList.map a.eval).toArray = xs.map a.eval := fun xs => by
    rw [← Array.toList_map]
  have h3 : ∀ xs : Array Operand, (xs.toList.map isConstO).toArray = xs.map fun | .const _ => true | _ => false := fun xs => by
    rw [← Array.toList_map]
    rfl
  cases op <;> try rfl
  case build t parts => simp only [semX, sBuild]; rw [h1]; rfl
  case buildSlice t n parts => simp only [semX, sBuildSlice]; rw [h1]; rfl
  case makeFunc fn f c => simp only [semX, sMakeFunc]; rw [h2, h2]; rfl
  case call c =>
    obtain ⟨callee, args, ats⟩ := c
    cases callee with
    | value f => simp only [semX, sCallV]; rw [h2]; rfl
    | invoke r m => simp only [semX, sInvoke]; rw [h2]; rfl
    | builtin b => simp only [semX, sBuiltin]; rw [h2, h3]; rfl

theorem callable_run {f : FuncId} (h : callable P f = true) (args : Array Value) (w : World) : (callFunc f args).run P w = .ok (.enter f args) w := by
  unfold callable at h
  cases hf : P.funcs[f]? with
  | none => rw [hf] at h; cases h
  | some fn =>
    rw [hf] at h
    simp only [Bool.and_eq_true, Bool.not_eq_true'] at h
    have h2 : fn.body.isNone = false := by
      cases hb : fn.body with
      | none => rw [hb] at h; cases h.2
      | some c => rfl
    have h3 : fn.name ≠ "runtime.NumGoroutine" := by simpa using h.1
    have h4 : fn.body ≠ none := by intro hb; rw [hb] at h2; cases h2
    simp [callFunc, program, Sem.run, hf, h3, h4]

theorem StepX_upon {o : Oper} {a : Act} {K : Value → World → Prop} {K' : Act → World → Prop} {Q' : Exit → Act → World → Prop} {w : World}
    (h : StepX P (semX a o) w K) (hk : ∀ v w', K v w' → K' (a.put o.dst v) w') : o.wp P a w K' Q' := by
  rw [semX_eq] at h
  unfold StepX at h
  unfold Oper.wp
  generalize (execOp a.eval o).run P w = r at *
  split at h
  · exact hk _ _ h
  · exact hk _ _ h
  · simp only [Oper.upon]
    refine Calls.mono h fun e w'' ⟨v, he, hv⟩ => ?_
    subst he
    exact hk _ _ hv
  · exact h.elim

theorem opX_wp {o : Oper} {a : Act} {w : World} {K : Value → World → Prop} {K' : Act → World → Prop} {Q' : Exit → Act → World → Prop}
    (h : opX P o a w K) (hk : ∀ v w', K v w' → K' (a.put o.dst v) w') : o.wp P a w K' Q' := by
  unfold opX at h
  split at h
  · rename_i x hx
    unfold Oper.wp
    have : (execOp a.eval o).run P w = .ok (.value (a.eval x)) w := by simp only [execOp, hx]; rfl
    rw [this]
    exact hk _ _ h
  · rename_i x hx
    unfold Oper.wp
    have : (execOp a.eval o).run P w = .ok (.value (a.eval x)) w := by simp only [execOp, hx]; rfl
    rw [this]
    exact hk _ _ h
  · rename_i f args ats ho
    split at h
    · rename_i hc
      have h2 : (args.toList.map a.eval).toArray = args.map a.eval := by rw [← Array.toList_map]
      have he : (execOp a.eval o).run P w = .ok (.enter f (args.toList.map a.eval).toArray) w := by
        rw [h2]
        have h3 : execOp a.eval o = callFunc f (#[] ++ args.map a.eval ++ #[]) := by
          simp only [execOp, ho]; rfl
        rw [h3, Array.empty_append, Array.append_empty]
        exact callable_run hc _ _
      unfold Oper.wp
      rw [he]
      simp only [Oper.upon]
      refine Calls.mono h fun e w'' ⟨v, he, hv⟩ => ?_
      subst he
      exact hk _ _ hv
    · exact h.elim
  · exact StepX_upon h hk

theorem listX_wp {ops : Array Oper} {Q : Act → World → Prop} {Q' : Exit → Act → World → Prop} (hQ : ∀ a w, Q a w → Q' .normal a w) :
    ∀ (l : List Oper) (i : Nat) (a : Act) (w : World), listX P ops Q i l a w → wpList P ops Q' l a w
  | [], _, a, w, h => hQ a w h
  | o :: rest, i, a, w, h => by
    unfold listX at h
    unfold wpList
    cases hw : Region.wanted o (yielded ops a.tmps) with
    | false =>
      rw [hw] at h
      simp only [Bool.false_eq_true, if_false]
      exact listX_wp hQ rest _ _ _ h
    | true =>
      rw [hw] at h
      simp only [if_true]
      exact .inl (opX_wp h fun v w' hv => listX_wp hQ rest _ _ _ (after_out hv))

theorem listX_agree {ops : Array Oper} {Q : Act → World → Prop} {ds : List Nat} {a0 : Act} :
    ∀ (l : List Oper) (i : Nat) (a : Act) (w : World), (∀ o ∈ l, ∀ d, o.dst = some d → d ∈ ds) → Agree ds a0 a → listX P ops Q i l a w →
      listX P ops (fun a' w' => Q a' w' ∧ Agree ds a0 a') i l a w
  | [], _, a, w, _, ha, h => ⟨h, ha⟩
  | o :: rest, i, a, w, hd, ha, h => by
    unfold listX at h ⊢
    have hd' : ∀ o ∈ rest, ∀ d, o.dst = some d → d ∈ ds := fun o ho => hd o (List.mem_cons_of_mem _ ho)
    have hdo : ∀ d, o.dst = some d → d ∈ ds := hd o List.mem_cons_self
    cases hw : Region.wanted o (yielded ops a.tmps) with
    | false =>
      rw [hw] at h
      exact listX_agree rest _ _ _ hd' (ha.put _ hdo) h
    | true =>
      rw [hw] at h
      exact opX_mono h fun v w' hv => after_mono hv fun u hu => listX_agree rest _ _ _ hd' (ha.put _ hdo) hu

/-! the regions that draw -/

def Closed (ops : Array Oper) (listed : Array Bool) : Prop :=
  ∀ j oj, ops[j]? = some oj → listed.getD j false = true → ∀ e ∈ oj.after, Region.binds .any e = true → listed.getD e.on false = true

theorem Closed.set {ops : Array Oper} {listed : Array Bool} {i : Nat} (h : Closed ops listed) (hi : i ∈ Region.ready .any ops listed) : Closed ops (listed.setIfInBounds i true) := by
  obtain ⟨_, oi, hoi, hall⟩ := mem_ready.1 hi
  intro j oj hj hl e he hb
  by_cases hij : i = j
  · subst hij
    have : oj = oi := Option.some.inj (hj.symm.trans hoi)
    subst this
    exact getD_set_true (hall e he hb)
  · rw [getD_set_ne false hij] at hl
    exact getD_set_true (h j oj hj hl e he hb)

theorem reach_listed {ops : Array Oper} {listed : Array Bool} {i : Nat} (hc : Closed ops listed) : ∀ (fuel d : Nat), reachB ops i fuel d = true → listed.getD d false = true → listed.getD i false = true
  | 0, _, h, _ => by simp [reachB] at h
  | fuel + 1, d, h, hl => by
    unfold reachB at h
    cases ho : ops[d]? with
    | none => rw [ho] at h; simp at h
    | some o =>
      rw [ho] at h
      obtain ⟨e, he, hb⟩ := List.any_eq_true.1 h
      simp only [Bool.and_eq_true, Bool.or_eq_true, beq_iff_eq] at hb
      have h1 := hc d o ho hl e (Array.mem_toList_iff.1 he) hb.1
      rcases hb.2 with h2 | h2
      · rw [← h2]; exact h1
      · exact reach_listed hc fuel e.on h2 h1

theorem ready_reach {ops : Array Oper} {listed : Array Bool} {i j : Nat} (hc : Closed ops listed) (hj : j ∈ Region.ready .any ops listed) (fuel : Nat) (h : reachB ops i fuel j = true) : listed.getD i false = true := by
  cases fuel with
  | zero => simp [reachB] at h
  | succ fuel =>
    obtain ⟨_, oj, hoj, hall⟩ := mem_ready.1 hj
    unfold reachB at h
    rw [hoj] at h
    obtain ⟨e, he, hb⟩ := List.any_eq_true.1 h
    simp only [Bool.and_eq_true, Bool.or_eq_true, beq_iff_eq] at hb
    have h1 := hall e (Array.mem_toList_iff.1 he) hb.1
    rcases hb.2 with h2 | h2
    · rw [← h2]; exact h1
    · exact reach_listed hc fuel e.on h2 h1

/-- In state a, in every world that meets S, the operation leaves v in its slot and does nothing else. -/
def YieldsS (P : Program) (ops : Array Oper) (S : World → Prop) (o : Oper) (v : Value) (a : Act) : Prop :=
  (Region.wanted o (yielded ops a.tmps) = true ∧ ∀ w, S w → (execOp a.eval o).run P w = .ok (.value v) w) ∨
  (Region.wanted o (yielded ops a.tmps) = false ∧ v = undef)

theorem YieldsS.weaken {ops : Array Oper} {S S' : World → Prop} {o : Oper} {v : Value} {a : Act} (h : YieldsS P ops S o v a) (hs : ∀ w, S' w → S w) : YieldsS P ops S' o v a :=
  h.imp (fun ⟨hw, hv⟩ => ⟨hw, fun w hw' => hv w (hs w hw')⟩) id

theorem YieldsS.of_same {ops : Array Oper} {S : World → Prop} {o : Oper} {v : Value} {a a' : Act} (hy : YieldsS P ops S o v a) (he : execOp a'.eval o = execOp a.eval o)
    (hw : Region.wanted o (yielded ops a'.tmps) = Region.wanted o (yielded ops a.tmps)) : YieldsS P ops S o v a' := by
  unfold YieldsS at *
  rw [he, hw]
  exact hy

def QN (Q : Act → World → Prop) : Exit → Act → World → Prop
  | .normal, a, w => Q a w
  | _, _, _ => False

theorem YieldsS.wpOp {ops : Array Oper} {S : World → Prop} {Q : Exit → Act → World → Prop} {i : Nat} {o : Oper} {v : Value} {a : Act} (hi : ops[i]? = some o) (hy : YieldsS P ops S o v a)
    {K : Act → World → Prop} {w : World} (hS : S w) (h : K (a.put o.dst v) w) : wpOp P ops Q i K a w := by
  unfold Go.wpOp
  simp only [hi]
  rcases hy with ⟨hw, hv⟩ | ⟨hw, rfl⟩
  · simp only [hw, if_true, Oper.wp, hv w hS, Oper.upon]; exact .inl h
  · simp only [hw, Bool.false_eq_true, if_false]; exact h

theorem wpOp_putS {ops : Array Oper} {S : World → Prop} {Q : Act → World → Prop} {j : Nat} {oi oj : Oper} {v : Value} (hj : ops[j]? = some oj) (hap : oi.apart ops oj = true)
    (hsi : ∀ cs b, oi.op ≠ .select cs b) (hsj : ∀ cs b, oj.op ≠ .select cs b) {K : Act → World → Prop} {a : Act} {w : World}
    (hy : YieldsS P ops S oi v a) (h : wpOp P ops (QN Q) j K (a.put oi.dst v) w) :
    wpOp P ops (QN Q) j (fun a' w' => YieldsS P ops S oi v a' ∧ K (a'.put oi.dst v) w') a w := by
  obtain ⟨h1, h2, h3⟩ := Oper.apart_spec hap
  have keep : ∀ (a : Act), YieldsS P ops S oi v a → ∀ u, YieldsS P ops S oi v (a.put oj.dst u) := fun a hy u =>
    hy.of_same (execOp_put oi hsi a oj.dst u h3) (wanted_put oi a oj.dst u h3)
  have keepD : ∀ d, YieldsS P ops S oi v { a with defers := d :: a.defers } := fun d => hy.of_same rfl rfl
  unfold wpOp at *
  simp only [hj] at *
  rw [wanted_put oj a oi.dst v h1] at h
  split
  · rename_i hw
    simp only [hw, if_true] at h
    rcases h with h | ⟨hasks, hlets⟩
    case inr => obtain ⟨_, _, hf⟩ := hlets; exact hf.elim
    refine .inl ?_
    unfold Oper.wp at *
    rw [execOp_put oj hsj a oi.dst v h1] at h
    generalize (execOp a.eval oj).run P w = r at *
    cases r with
    | ok n w' =>
      cases n <;> simp only [Oper.upon] at h ⊢
      case value u => exact ⟨keep a hy u, by rw [← Act.put_comm a v u h2]; exact h⟩
      case skip => exact ⟨keep a hy _, by rw [← Act.put_comm a v undef h2]; exact h⟩
      case defer d =>
        refine ⟨keep _ (keepD d) _, ?_⟩
        rw [← Act.put_comm _ v undef h2, ← Act.put_defers]
        exact h
      case enter f args =>
        refine Calls.mono h fun e w'' he => ?_
        cases e with
        | returned u => exact ⟨keep a hy u, by rw [← Act.put_comm a v u h2]; exact he⟩
        | panicked c => exact he.elim
        | outgrown => exact he
      case row row args => exact Rows.mono h fun u w'' he => ⟨keep a hy u, by rw [← Act.put_comm a v u h2]; exact he⟩
    | halt x w' =>
      cases x <;> simp only [Oper.upon] at h ⊢
      case panic u => exact h.elim
  · rename_i hw
    simp only [hw] at h
    exact ⟨keep a hy _, by rw [← Act.put_comm a v undef h2]; exact h⟩

/-- Whatever order is picked from here on; behind each operation some S' holds, a part of S wherever one that was taken first may still come. -/
def wpT (P : Program) (ops : Array Oper) (Q : Act → World → Prop) : Nat → Array Bool → List Nat → (World → Prop) → Act → World → Prop
  | 0, listed, _, _, a, w => Region.ready .any ops listed = [] ∧ Q a w
  | fuel + 1, listed, took, S, a, w =>
    (Region.ready .any ops listed = [] → Q a w) ∧
    ∀ i ∈ Region.ready .any ops listed, wpOp P ops (QN Q) i (fun a' w' => ∃ S' : World → Prop, (lastB ops took i = false → ∀ w, S' w → S w) ∧ S' w' ∧ wpT P ops Q fuel (listed.setIfInBounds i true) took S' a' w') a w

theorem wpAny_of_T {ops : Array Oper} {Q : Act → World → Prop} : ∀ (fuel : Nat) (listed : Array Bool) (took : List Nat) (S : World → Prop) (a : Act) (w : World), wpT P ops Q fuel listed took S a w → wpAny P .any ops (QN Q) fuel listed a w
  | 0, _, _, _, _, _, h => h
  | fuel + 1, _, _, _, _, _, h => ⟨h.1, fun i hi => wpOp_mono (fun _ _ ⟨_, _, _, h'⟩ => wpAny_of_T fuel _ _ _ _ _ h') (h.2 i hi)⟩

theorem wpT_first {ops : Array Oper} {Q : Act → World → Prop} {i : Nat} {oi : Oper} {v : Value} (hi : ops[i]? = some oi) (hsel : ∀ (j : Nat) (o : Oper) cs b, ops[j]? = some o → o.op ≠ .select cs b) :
    ∀ (fuel : Nat) (listed : Array Bool) (took : List Nat) (S : World → Prop) (a : Act) (w : World),
      (∀ j oj, ops[j]? = some oj → j ≠ i → listed.getD j true = false → (∀ e ∈ oj.after, Region.binds .any e = true → e.on ≠ i) → oi.apart ops oj = true) →
      Closed ops listed → i ∈ Region.ready .any ops listed → YieldsS P ops S oi v a → S w →
      wpT P ops Q fuel (listed.setIfInBounds i true) (i :: took) S (a.put oi.dst v) w → wpT P ops Q (fuel + 1) listed took S a w := by
  have less : ∀ (fuel : Nat) (listed : Array Bool) (took : List Nat) (S : World → Prop) (a : Act) (w : World), wpT P ops Q fuel listed (i :: took) S a w → wpT P ops Q fuel listed took S a w := by
    intro fuel
    induction fuel with
    | zero => intro _ _ _ _ _ h; exact h
    | succ fuel ih =>
      intro listed took S a w h
      refine ⟨h.1, fun j hj => wpOp_mono (fun a' w' ⟨S', h1, h2, h3⟩ => ⟨S', fun hl => h1 ?_, h2, ih _ _ _ _ _ h3⟩) (h.2 j hj)⟩
      unfold lastB at hl ⊢
      rw [List.all_cons, hl, Bool.and_false]
  intro fuel
  induction fuel with
  | zero =>
    intro listed took S a w _ hc hr hy hS H
    refine ⟨fun h => (by rw [h] at hr; cases hr), fun j hj => ?_⟩
    by_cases hji : j = i
    · subst hji; exact hy.wpOp hi hS ⟨S, fun _ _ h => h, hS, H⟩
    · have := ready_mono hj hji
      rw [H.1] at this
      cases this
  | succ fuel ih =>
    intro listed took S a w hfree hc hr hy hS H
    refine ⟨fun h => (by rw [h] at hr; cases hr), fun j hj => ?_⟩
    by_cases hji : j = i
    · subst hji; exact hy.wpOp hi hS ⟨S, fun _ _ h => h, hS, less _ _ _ _ _ _ H⟩
    · have h1 := H.2 j (ready_mono hj hji)
      obtain ⟨hjun, oj, hoj, hall⟩ := mem_ready.1 hj
      have hnl : listed.getD i false = false := by
        have h0 := (mem_ready.1 hr).1
        rcases Nat.lt_or_ge i listed.size with h' | h'
        · simp [h'] at h0 ⊢; exact h0
        · simp [Array.getElem?_eq_none h'] at h0
      have hnot : ∀ e ∈ oj.after, Region.binds .any e = true → e.on ≠ i := fun e he hb heq => by
        have h1 := hall e he hb
        rw [heq, hnl] at h1
        cases h1
      have hlast : lastB ops (i :: took) j = false := by
        unfold lastB
        rw [List.all_cons]
        cases hrb : reachB ops i ops.size j with
        | false => rfl
        | true =>
          have := ready_reach hc hj _ hrb
          rw [hnl] at this
          cases this
      have h2 := wpOp_putS hoj (hfree j oj hoj hji hjun hnot) (fun cs b => hsel i oi cs b hi) (fun cs b => hsel j oj cs b hoj) hy h1
      have hfree' : ∀ k ok, ops[k]? = some ok → k ≠ i → (listed.setIfInBounds j true).getD k true = false →
          (∀ e ∈ ok.after, Region.binds .any e = true → e.on ≠ i) → oi.apart ops ok = true := fun k ok hk hki hun hno => by
        refine hfree k ok hk hki ?_ hno
        by_cases hjk : j = k
        · subst hjk; exact hjun
        · rw [getD_set_ne true hjk] at hun; exact hun
      refine wpOp_mono (fun a' w' h3 => ?_) h2
      obtain ⟨hy', S', hS1, hS2, h4⟩ := h3
      have hsub := hS1 hlast
      refine ⟨S', fun _ => hsub, hS2, ih (listed.setIfInBounds j true) took S' a' w' hfree' (hc.set hj) (ready_mono hr (Ne.symm hji)) (hy'.weaken hsub) hS2 ?_⟩
      rw [Array.setIfInBounds_comm _ _ hji]
      exact h4

theorem wpT_firstP {ops : Array Oper} {Q : Act → World → Prop} {i : Nat} {oi : Oper} {v : Value} (hi : ops[i]? = some oi) (hsel : ∀ (j : Nat) (o : Oper) cs b, ops[j]? = some o → o.op ≠ .select cs b) :
    ∀ (fuel : Nat) (listed : Array Bool) (took : List Nat) (S : World → Prop) (a : Act) (w : World),
      (∀ j oj, ops[j]? = some oj → j ≠ i → listed.getD j true = false → (∀ e ∈ oj.after, Region.binds .any e = true → e.on ≠ i) → oi.apart ops oj = true) →
      Closed ops listed → i ∈ Region.ready .any ops listed → YieldsS P ops (fun _ => True) oi v a → S w →
      wpT P ops Q fuel (listed.setIfInBounds i true) took S (a.put oi.dst v) w → wpT P ops Q (fuel + 1) listed took S a w := by
  intro fuel
  induction fuel with
  | zero =>
    intro listed took S a w _ hc hr hy hS H
    refine ⟨fun h => (by rw [h] at hr; cases hr), fun j hj => ?_⟩
    by_cases hji : j = i
    · subst hji; exact hy.wpOp hi trivial ⟨S, fun _ _ h => h, hS, H⟩
    · have := ready_mono hj hji
      rw [H.1] at this
      cases this
  | succ fuel ih =>
    intro listed took S a w hfree hc hr hy hS H
    refine ⟨fun h => (by rw [h] at hr; cases hr), fun j hj => ?_⟩
    by_cases hji : j = i
    · subst hji; exact hy.wpOp hi trivial ⟨S, fun _ _ h => h, hS, H⟩
    · have h1 := H.2 j (ready_mono hj hji)
      obtain ⟨hjun, oj, hoj, hall⟩ := mem_ready.1 hj
      have hnl : listed.getD i false = false := by
        have h0 := (mem_ready.1 hr).1
        rcases Nat.lt_or_ge i listed.size with h' | h'
        · simp [h'] at h0 ⊢; exact h0
        · simp [Array.getElem?_eq_none h'] at h0
      have hnot : ∀ e ∈ oj.after, Region.binds .any e = true → e.on ≠ i := fun e he hb heq => by
        have h1 := hall e he hb
        rw [heq, hnl] at h1
        cases h1
      have h2 := wpOp_putS hoj (hfree j oj hoj hji hjun hnot) (fun cs b => hsel i oi cs b hi) (fun cs b => hsel j oj cs b hoj) hy h1
      have hfree' : ∀ k ok, ops[k]? = some ok → k ≠ i → (listed.setIfInBounds j true).getD k true = false →
          (∀ e ∈ ok.after, Region.binds .any e = true → e.on ≠ i) → oi.apart ops ok = true := fun k ok hk hki hun hno => by
        refine hfree k ok hk hki ?_ hno
        by_cases hjk : j = k
        · subst hjk; exact hjun
        · rw [getD_set_ne true hjk] at hun; exact hun
      refine wpOp_mono (fun a' w' h3 => ?_) h2
      obtain ⟨hy', S', hS1, hS2, h4⟩ := h3
      refine ⟨S', hS1, hS2, ih (listed.setIfInBounds j true) took S' a' w' hfree' (hc.set hj) (ready_mono hr (Ne.symm hji)) hy' hS2 ?_⟩
      rw [Array.setIfInBounds_comm _ _ hji]
      exact h4
theorem wpT_firstS {ops : Array Oper} {Q : Act → World → Prop} {i : Nat} {oi : Oper} {v : Value} (hi : ops[i]? = some oi) (hsel : ∀ (j : Nat) (o : Oper) cs b, ops[j]? = some o → o.op ≠ .select cs b)
    (fuel : Nat) (listed : Array Bool) (took : List Nat) (S : World → Prop) (a : Act) (w : World)
    (hfree : ∀ j oj, ops[j]? = some oj → j ≠ i → listed.getD j true = false → (∀ e ∈ oj.after, Region.binds .any e = true → e.on ≠ i) → oi.apart ops oj = true)
    (hc : Closed ops listed) (hr : i ∈ Region.ready .any ops listed) (hy : YieldsS P ops (stP ops i S) oi v a) (hS : S w)
    (H : wpT P ops Q fuel (listed.setIfInBounds i true) (tookP ops i took) S (a.put oi.dst v) w) : wpT P ops Q (fuel + 1) listed took S a w := by
  unfold stP at hy
  unfold tookP at H
  cases hp : pureL ops i with
  | true => rw [hp] at hy H; exact wpT_firstP hi hsel fuel listed took S a w hfree hc hr hy hS H
  | false => rw [hp] at hy H; exact wpT_first hi hsel fuel listed took S a w hfree hc hr hy hS H

theorem readyL_eq (ops : Array Oper) (listed : Array Bool) : readyL ops listed = Region.ready .any ops listed := by
  unfold readyL Region.ready
  congr 1
  funext i
  cases ops[i]? with
  | none => rfl
  | some o => simp only [Option.map_some, Option.getD_some, Array.all_toList]

theorem opL_eq (op : Op) : opL op = op.operands.toList := by
  unfold opL
  split <;> simp [Op.operands, Call.operands]

theorem looksL_eq (ops : Array Oper) (o : Oper) : looksL ops o = o.looksAt ops := by
  unfold looksL Oper.looksAt tmpsOf
  rw [opL_eq]
  rfl

theorem apartL_eq (ops : Array Oper) (x y : Oper) : apartL ops x y = x.apart ops y := by
  unfold apartL Oper.apart
  rw [looksL_eq, looksL_eq]
  rfl

theorem freeL_eq (ops : Array Oper) (listed : Array Bool) (i : Nat) : freeL ops listed i = Region.free .any ops listed i := by
  unfold freeL Region.free
  cases ops[i]? with
  | none => rfl
  | some oi =>
    simp only
    congr 1
    funext j
    cases ops[j]? with
    | none => rfl
    | some oj => simp only [Array.any_toList, apartL_eq]

theorem noSelectL_eq (ops : Array Oper) : noSelectL ops = Region.noSelect ops := by
  unfold noSelectL Region.noSelect
  rw [Array.all_toList]
  rfl

theorem flX_out {ops : Array Oper} {i : Nat} {S : World → Prop} {a : Act} {K : Act → Prop} (h : flX P ops i S a K) : ∃ o v, ops[i]? = some o ∧ YieldsS P ops S o v a ∧ K (a.put o.dst v) := by
  unfold flX at h
  cases ho : ops[i]? with
  | none => rw [ho] at h; exact h.elim
  | some o =>
    rw [ho] at h
    simp only at h
    cases hw : Region.wanted o (yielded ops a.tmps) with
    | false =>
      rw [hw] at h
      exact ⟨o, undef, rfl, .inr ⟨hw, rfl⟩, h⟩
    | true =>
      rw [hw] at h
      simp only at h
      split at h
      · rename_i x hx
        exact ⟨o, a.eval x, rfl, .inl ⟨hw, fun w _ => by simp only [execOp, hx]; rfl⟩, after_out h⟩
      · rename_i x hx
        exact ⟨o, a.eval x, rfl, .inl ⟨hw, fun w _ => by simp only [execOp, hx]; rfl⟩, after_out h⟩
      · obtain ⟨v, hv, hk⟩ := h
        exact ⟨o, v, rfl, .inl ⟨hw, fun w hS => by rw [← semX_eq]; exact hv w hS⟩, after_out hk⟩

theorem flX_mono {ops : Array Oper} {i : Nat} {S : World → Prop} {a : Act} {K K' : Act → Prop} (h : flX P ops i S a K) (hk : ∀ o, ops[i]? = some o → ∀ v, K (a.put o.dst v) → K' (a.put o.dst v)) : flX P ops i S a K' := by
  unfold flX at *
  cases ho : ops[i]? with
  | none => rw [ho] at h; exact h.elim
  | some o =>
    rw [ho] at h
    simp only at h ⊢
    cases hw : Region.wanted o (yielded ops a.tmps) with
    | false =>
      rw [hw] at h
      exact hk o ho _ h
    | true =>
      rw [hw] at h
      simp only at h ⊢
      split at h
      · exact after_mono h (hk o ho)
      · exact after_mono h (hk o ho)
      · obtain ⟨v, hv, hk'⟩ := h
        exact ⟨v, hv, after_mono hk' (hk o ho)⟩

theorem chX_mono {ops : Array Oper} {l : Bool} {i : Nat} {S : World → Prop} {a : Act} {w : World} {K K' : Act → World → (World → Prop) → Prop} (h : chX P ops l i S a w K)
    (hk : ∀ o, ops[i]? = some o → ∀ v w' S', K (a.put o.dst v) w' S' → K' (a.put o.dst v) w' S') : chX P ops l i S a w K' := by
  unfold chX at *
  cases ho : ops[i]? with
  | none => rw [ho] at h; exact h.elim
  | some o =>
    rw [ho] at h
    simp only at h ⊢
    cases hw : Region.wanted o (yielded ops a.tmps) with
    | false => rw [hw] at h; exact hk o ho _ _ _ h
    | true =>
      rw [hw] at h
      refine opX_mono h fun v w' hv => ?_
      cases l with
      | true => obtain ⟨S', h1, h2⟩ := hv; exact ⟨S', h1, after_mono h2 fun u hu => hk o ho _ _ _ hu⟩
      | false => obtain ⟨S', h0, h1, h2⟩ := hv; exact ⟨S', h0, h1, after_mono h2 fun u hu => hk o ho _ _ _ hu⟩

theorem allX_out {rs : List Nat} {K : Nat → Prop} (h : allX rs K) : ∀ i ∈ rs, K i := by
  induction rs with
  | nil => intro i hi; cases hi
  | cons r rs ih =>
    cases rs with
    | nil => intro i hi; simp at hi; subst hi; exact h
    | cons r' rs =>
      intro i hi
      rcases List.mem_cons.1 hi with rfl | hi
      · exact h.1
      · exact ih h.2 i hi

theorem allX_mono {rs : List Nat} {K K' : Nat → Prop} (h : allX rs K) (hk : ∀ i, K i → K' i) : allX rs K' := by
  induction rs with
  | nil => exact h
  | cons r rs ih =>
    cases rs with
    | nil => exact hk _ h
    | cons r' rs => exact ⟨hk _ h.1, ih h.2⟩

theorem treeX_agree {ops : Array Oper} {Q : Act → World → Prop} {ds : List Nat} {a0 : Act} (hd : ∀ (i : Nat) (o : Oper), ops[i]? = some o → ∀ d, o.dst = some d → d ∈ ds) :
    ∀ (fuel : Nat) (listed : Array Bool) (took : List Nat) (S : World → Prop) (a : Act) (w : World), Agree ds a0 a → treeX P ops Q fuel listed took S a w → treeX P ops (fun a' w' => Q a' w' ∧ Agree ds a0 a') fuel listed took S a w
  | 0, listed, took, S, a, w, ha, h => by
    unfold treeX at *
    split
    · rename_i hr; rw [hr] at h; exact ⟨h, ha⟩
    · rename_i hr; rw [hr] at h; exact h
  | fuel + 1, listed, took, S, a, w, ha, h => by
    unfold treeX at *
    split
    · rename_i hr; rw [hr] at h; exact ⟨h, ha⟩
    · rename_i hr
      rw [hr] at h
      dsimp only at h ⊢
      split
      · rename_i hf
        rw [hf] at h
        exact flX_mono h fun o ho v hv => treeX_agree hd fuel _ _ _ _ _ (ha.put _ (hd _ o ho)) hv
      · rename_i hf
        rw [hf] at h
        exact allX_mono h fun j hj => chX_mono hj fun o ho v w' S' hv => treeX_agree hd fuel _ _ _ _ _ (ha.put _ (hd _ o ho)) hv

theorem treeX_T {ops : Array Oper} {Q : Act → World → Prop} (hsel : ∀ (j : Nat) (o : Oper) cs b, ops[j]? = some o → o.op ≠ .select cs b) :
    ∀ (fuel : Nat) (listed : Array Bool) (took : List Nat) (S : World → Prop) (a : Act) (w : World), Closed ops listed → S w → treeX P ops Q fuel listed took S a w → wpT P ops Q fuel listed took S a w
  | 0, listed, took, S, a, w, _, _, h => by
    unfold treeX at h
    rw [readyL_eq] at h
    cases hr : Region.ready .any ops listed with
    | nil => rw [hr] at h; exact ⟨hr, h⟩
    | cons r rs => rw [hr] at h; exact h.elim
  | fuel + 1, listed, took, S, a, w, hc, hS, h => by
    unfold treeX at h
    rw [readyL_eq] at h
    cases hr : Region.ready .any ops listed with
    | nil =>
      rw [hr] at h
      exact ⟨fun _ => h, fun i hi => (by rw [hr] at hi; cases hi)⟩
    | cons r rs =>
      rw [hr] at h
      simp only at h
      cases hf : (r :: rs).find? (flAt P ops listed a) with
      | some i =>
        rw [hf] at h
        have him : i ∈ Region.ready .any ops listed := by rw [hr]; exact List.mem_of_find?_eq_some hf
        obtain ⟨o, v, ho, hy, hk⟩ := flX_out h
        have hfa := List.find?_some hf
        unfold flAt at hfa
        rw [ho] at hfa
        simp only [Bool.and_eq_true, freeL_eq] at hfa
        exact wpT_firstS ho hsel fuel listed took S a w (Region.free_spec ho hfa.2) hc him hy hS (treeX_T hsel fuel _ _ _ _ _ (hc.set him) hS hk)
      | none =>
        rw [hf] at h
        refine ⟨fun h0 => (by rw [hr] at h0; cases h0), fun i hi => ?_⟩
        have hi' := hi
        rw [hr] at hi'
        have hch := allX_out h i hi'
        unfold chX at hch
        cases ho : ops[i]? with
        | none => rw [ho] at hch; exact hch.elim
        | some o =>
          rw [ho] at hch
          simp only at hch
          unfold wpOp
          simp only [ho]
          cases hw : Region.wanted o (yielded ops a.tmps) with
          | true =>
            rw [hw] at hch
            simp only [if_true]
            refine .inl (opX_wp hch fun v w' hv => ?_)
            cases hl : lastB ops took i with
            | true =>
              rw [hl] at hv
              obtain ⟨S', h1, h2⟩ := hv
              exact ⟨S', fun h0 => (by cases h0), h1, treeX_T hsel fuel _ _ _ _ _ (hc.set hi) h1 (after_out h2)⟩
            | false =>
              rw [hl] at hv
              obtain ⟨S', h0, h1, h2⟩ := hv
              exact ⟨S', fun _ => h0, h1, treeX_T hsel fuel _ _ _ _ _ (hc.set hi) h1 (after_out h2)⟩
          | false =>
            rw [hw] at hch
            simp only [Bool.false_eq_true, if_false]
            exact ⟨S, fun _ _ h => h, hS, treeX_T hsel fuel _ _ _ _ _ (hc.set hi) hS hch⟩

theorem DrawX_wp {ops : Array Oper} {Q : Act → World → Prop} {Q' : Exit → Act → World → Prop} {id : Nat} {a : Act} {w : World} (hm : P.follows .mixedOrders = true) (hQ : ∀ a w, Q a w → Q' .normal a w) (h : DrawX P ops Q a w) :
    (Code.region id ops true).wp P Q' a w := by
  unfold DrawX at h
  cases hn : noSelectL ops with
  | false => rw [hn] at h; exact h.elim
  | true =>
    rw [hn] at h
    obtain ⟨S, h1, h2⟩ := h
    have hc : Closed ops (Array.replicate ops.size false) := by
      intro j oj hj hl
      have hlt : j < ops.size := (Array.getElem?_eq_some_iff.1 hj).1
      simp [hlt] at hl
    have h3 := wpAny_of_T _ _ _ _ _ _ (treeX_T (Region.noSelect_spec (noSelectL_eq ops ▸ hn)) _ _ _ _ _ _ hc h1 h2)
    refine Code.wp_mono (fun e a w he => ?_) (wp_region_any (Q := QN Q) hm h3)
    cases e with
    | normal => exact hQ _ _ he
    | _ => exact he.elim

theorem DrawX_agree {ops : Array Oper} {Q : Act → World → Prop} {a : Act} {w : World} (h : DrawX P ops Q a w) : DrawX P ops (fun a' w' => Q a' w' ∧ Agree (ops.toList.filterMap (·.dst)) a a') a w := by
  unfold DrawX at *
  cases hn : noSelectL ops with
  | false => rw [hn] at h; exact h.elim
  | true =>
    rw [hn] at h
    obtain ⟨S, h1, h2⟩ := h
    refine ⟨S, h1, treeX_agree (fun i o ho d hd => ?_) _ _ _ _ _ _ (Agree.refl _ _) h2⟩
    exact List.mem_filterMap.2 ⟨o, Array.mem_toList_iff.2 (Array.mem_of_getElem? ho), hd⟩

/-! loops -/

theorem mem_uniq {d : Nat} : ∀ ds : List Nat, d ∈ uniq ds ↔ d ∈ ds
  | [] => by simp [uniq]
  | e :: ds => by
    have ih := mem_uniq (d := d) ds
    have hu : uniq (e :: ds) = match (uniq ds).contains e with | true => uniq ds | false => e :: uniq ds := rfl
    rw [hu]
    cases hc : (uniq ds).contains e with
    | true =>
      simp only [List.mem_cons]
      have he : e ∈ uniq ds := by simpa using hc
      constructor
      · intro h; exact .inr (ih.1 h)
      · rintro (rfl | h)
        · exact he
        · exact ih.2 h
    | false => simp only [List.mem_cons, ih]

theorem nodupB_spec : ∀ ds : List Nat, nodupB ds = true → ds.Nodup
  | [], _ => List.nodup_nil
  | d :: ds, h => by
    simp only [nodupB, Bool.and_eq_true, Bool.not_eq_true'] at h
    refine List.nodup_cons.2 ⟨?_, nodupB_spec ds h.2⟩
    intro hm
    have : ds.contains d = true := by simpa using hm
    rw [this] at h
    cases h.1

theorem putV_size (vs : List Value) : ∀ (ds : List Nat) (j : Nat) (a : Act), (putV vs ds j a).tmps.size = a.tmps.size ∧ (putV vs ds j a).defers = a.defers
  | [], _, _ => ⟨rfl, rfl⟩
  | d :: ds, j, a => by
    obtain ⟨h1, h2⟩ := putV_size vs ds (j + 1) (a.put (some d) (vs.getD j undef))
    exact ⟨h1.trans (by simp [Act.put]), h2⟩

theorem putV_other (vs : List Value) {i : Nat} : ∀ (ds : List Nat) (j : Nat) (a : Act), i ∉ ds → (putV vs ds j a).tmps[i]? = a.tmps[i]?
  | [], _, _, _ => rfl
  | d :: ds, j, a, h => by
    simp only [List.mem_cons, not_or] at h
    show (putV vs ds (j + 1) (a.put (some d) (vs.getD j undef))).tmps[i]? = _
    rw [putV_other vs ds _ _ h.2]
    simp only [Act.put]
    rw [Array.getElem?_setIfInBounds_ne (Ne.symm h.1)]

theorem putV_at (vs : List Value) : ∀ (ds : List Nat) (j : Nat) (a : Act), ds.Nodup → (∀ d ∈ ds, d < a.tmps.size) → ∀ (k : Nat) (d : Nat), ds[k]? = some d → (putV vs ds j a).tmps[d]? = some (vs.getD (j + k) undef)
  | [], _, _, _, _, _, _, h => by simp at h
  | e :: ds, j, a, hn, hb, k, d, h => by
    have hn' := List.nodup_cons.1 hn
    show (putV vs ds (j + 1) (a.put (some e) (vs.getD j undef))).tmps[d]? = _
    cases k with
    | zero =>
      simp only [List.getElem?_cons_zero, Option.some.injEq] at h
      subst h
      rw [putV_other vs ds _ _ hn'.1]
      simp [Act.put, hb e List.mem_cons_self]
    | succ k =>
      simp only [List.getElem?_cons_succ] at h
      rw [putV_at vs ds (j + 1) _ hn'.2 (fun d hd => by simpa [Act.put] using hb d (List.mem_cons_of_mem _ hd)) k d h]
      rw [Nat.add_right_comm, Nat.add_assoc]

theorem Act.ext' {a b : Act} (h1 : a.tmps = b.tmps) (h2 : a.defers = b.defers) : a = b := by
  cases a; cases b; simp only at h1 h2; subst h1; subst h2; rfl

theorem putD_size (dv : Nat → Value) : ∀ (ds : List Nat) (a : Act), (putD dv ds a).tmps.size = a.tmps.size ∧ (putD dv ds a).defers = a.defers
  | [], _ => ⟨rfl, rfl⟩
  | d :: ds, a => by
    obtain ⟨h1, h2⟩ := putD_size dv ds (a.put (some d) (dv d))
    exact ⟨h1.trans (by simp [Act.put]), h2⟩

theorem putD_other (dv : Nat → Value) {i : Nat} : ∀ (ds : List Nat) (a : Act), i ∉ ds → (putD dv ds a).tmps[i]? = a.tmps[i]?
  | [], _, _ => rfl
  | d :: ds, a, h => by
    simp only [List.mem_cons, not_or] at h
    show (putD dv ds (a.put (some d) (dv d))).tmps[i]? = _
    rw [putD_other dv ds _ h.2]
    simp only [Act.put]
    rw [Array.getElem?_setIfInBounds_ne (Ne.symm h.1)]

theorem putD_at (dv : Nat → Value) {i : Nat} : ∀ (ds : List Nat) (a : Act), i < a.tmps.size → i ∈ ds → (putD dv ds a).tmps[i]? = some (dv i)
  | [], _, _, h => by cases h
  | d :: ds, a, hl, h => by
    show (putD dv ds (a.put (some d) (dv d))).tmps[i]? = _
    by_cases hi : i ∈ ds
    · exact putD_at dv ds _ (by simpa [Act.put] using hl) hi
    · have hd : i = d := by
        rcases List.mem_cons.1 h with h | h
        · exact h
        · exact absurd h hi
      subst hd
      rw [putD_other dv ds _ hi]
      simp [Act.put, hl]

theorem put_back {ds ls : List Nat} {a a' : Act} (h : Agree ds a a') (hn : ls.Nodup) (hb : ∀ d ∈ ds, d < a.tmps.size) (hls : ∀ d ∈ ls, d ∈ ds) :
    a' = putV (ls.map (getA a')) ls 0 (putD (getA a') ds a) := by
  have hs := putV_size (ls.map (getA a')) ls 0 (putD (getA a') ds a)
  have hs2 := putD_size (getA a') ds a
  refine Act.ext' ?_ (h.1.trans (hs.2.trans hs2.2).symm)
  apply Array.ext_getElem?
  intro i
  have hget : ∀ i, i ∈ ds → a'.tmps[i]? = some (getA a' i) := fun i hi => by
    have hlt : i < a'.tmps.size := by rw [h.2.1]; exact hb i hi
    simp [getA, hlt]
  by_cases hi : i ∈ ls
  · obtain ⟨k, hk⟩ := List.getElem?_of_mem hi
    rw [putV_at _ ls 0 _ hn (fun d hd => by rw [hs2.1]; exact hb d (hls d hd)) k i hk, hget i (hls i hi)]
    simp [hk]
  · rw [putV_other _ ls 0 _ hi]
    by_cases hd : i ∈ ds
    · rw [putD_at _ ds a (hb i hd) hd, hget i hd]
    · rw [putD_other _ ds a hd]
      exact h.2.2 i hd

theorem X_wp (nb : Nat) (hm : P.follows .mixedOrders = true) : ∀ (c : Code) (Q : Exit → Act → World → Prop) (a : Act) (w : World), X P nb c Q a w → c.wp P (fun e a' w' => Q e a' w' ∧ Agree (dsts c) a a') a w := by
  intro c
  induction c with
  | skip => intro Q a w h; exact wp_skip ⟨h, Agree.refl _ _⟩
  | label l => intro Q a w h; exact wp_label ⟨h, Agree.refl _ _⟩
  | ret => intro Q a w h; exact wp_ret ⟨h, Agree.refl _ _⟩
  | exit id => intro Q a w h; exact wp_exit ⟨h, Agree.refl _ _⟩
  | goto l => intro Q a w h; exact h.elim
  | refuse s => intro Q a w h; exact h.elim
  | scope c ih =>
    intro Q a w h
    refine wp_scope_straight (Code.wp_mono (fun e a' w' he => ?_) (ih _ a w h))
    cases e with
    | goto l => exact he.1
    | _ => exact he
  | rangeFunc f ps x y _ _ => intro Q a w h; exact h.elim
  | region id ops draw =>
    intro Q a w h
    cases draw with
    | false =>
      have h' : listX P ops (Q .normal) 0 ops.toList a w := h
      have h2 := listX_agree (ds := ops.toList.filterMap (·.dst)) (a0 := a) ops.toList 0 a w (fun o ho d hd => List.mem_filterMap.2 ⟨o, ho, hd⟩) (Agree.refl _ _) h'
      exact wp_region_list (listX_wp (fun a w hq => hq) _ _ _ _ h2)
    | true =>
      have h' : DrawX P ops (Q .normal) a w := h
      exact DrawX_wp hm (fun a w hq => hq) (DrawX_agree h')
  | seq c d ihc ihd =>
    intro Q a w h
    refine wp_seq (Code.wp_mono (fun e a' w' he => ?_) (ihc _ a w h))
    cases e with
    | normal =>
      refine Code.wp_mono (fun e a'' w'' he' => ?_) (ihd _ a' w' he.1)
      exact ⟨he'.1, (he.2.mono fun d hd => List.mem_append_left _ hd).trans (he'.2.mono fun d hd => List.mem_append_right _ hd)⟩
    | _ => exact ⟨he.1, he.2.mono fun d hd => List.mem_append_left _ hd⟩
  | cond c t e iht ihe =>
    intro Q a w h
    obtain ⟨⟨b, hb⟩, h1, h2⟩ := h
    cases b with
    | true => exact wp_cond_true hb (Code.wp_mono (fun e a' w' he => ⟨he.1, he.2.mono fun d hd => List.mem_append_left _ hd⟩) (iht _ a w (h1 hb)))
    | false => exact wp_cond_false hb (Code.wp_mono (fun e a' w' he => ⟨he.1, he.2.mono fun d hd => List.mem_append_right _ hd⟩) (ihe _ a w (h2 hb)))
  | block id c ih =>
    intro Q a w h
    refine wp_block (Code.wp_mono (fun e a' w' he => ?_) (ih _ a w h))
    cases e with
    | exit id' =>
      simp only [Exit.inBlock] at he ⊢
      split
      · rename_i hid; rw [if_pos hid] at he; exact he
      · rename_i hid; rw [if_neg hid] at he; exact he
    | _ => exact he
  | loop c ih =>
    intro Q a w h
    have h' : LoopX (uniq (dsts c)) (live nb c (uniq (dsts c))) a w fun a' w' again => X P nb c (Exit.then again Q) a' w' := h
    unfold LoopX at h'
    generalize hls : live nb c (uniq (dsts c)) = ls at *
    generalize hds : uniq (dsts c) = ds at *
    have hmem : ∀ d, d ∈ ds ↔ d ∈ dsts c := fun d => hds ▸ mem_uniq (dsts c)
    have hsub : ∀ d ∈ ls, d ∈ ds := fun d hd => by rw [← hls] at hd; exact (List.mem_filter.1 hd).1
    cases hok : loopOk ds a.tmps.size with
    | false => rw [hok] at h'; exact h'.elim
    | true =>
      rw [hok] at h'
      simp only [loopOk, Bool.and_eq_true, List.all_eq_true, Nat.blt_eq] at hok
      obtain ⟨hb, hn⟩ := hok
      have hn := nodupB_spec ds hn
      have hnl : ls.Nodup := by rw [← hls]; exact hn.filter _
      obtain ⟨I, μ, h0, hr⟩ := h'
      refine wp_loop (fun a' w' => Agree ds a a' ∧ I (ls.map (getA a')) w') (fun a' w' => μ (ls.map (getA a')) w') ⟨Agree.refl _ _, h0⟩ ?_
      rintro a1 w1 ⟨hag1, hI⟩
      have hback := put_back hag1 hnl hb hsub
      have h1 := hr (getA a1) (ls.map (getA a1)) w1 (by simp) hI
      dsimp only at h1
      rw [← hback] at h1
      refine Code.wp_mono (fun e a2 w2 he => ?_) (ih _ _ _ h1)
      have hag : Agree ds a a2 := hag1.trans (he.2.mono fun d hd => (hmem d).2 hd)
      cases e with
      | normal => exact ⟨⟨hag, he.1.1⟩, he.1.2⟩
      | _ => exact ⟨he.1, hag.mono fun d hd => (hmem d).1 hd⟩

/-! a reading is monotone, and bears which slots are written -/

theorem listX_mono {ops : Array Oper} {Q Q' : Act → World → Prop} (hQ : ∀ a w, Q a w → Q' a w) : ∀ (l : List Oper) (i : Nat) (a : Act) (w : World), listX P ops Q i l a w → listX P ops Q' i l a w
  | [], _, a, w, h => hQ a w h
  | o :: rest, i, a, w, h => by
    unfold listX at h ⊢
    cases hw : Region.wanted o (yielded ops a.tmps) with
    | false =>
      rw [hw] at h
      exact listX_mono hQ rest _ _ _ h
    | true =>
      rw [hw] at h
      exact opX_mono h fun v w' hv => after_mono hv fun u hu => listX_mono hQ rest _ _ _ hu

theorem treeX_mono {ops : Array Oper} {Q Q' : Act → World → Prop} (hQ : ∀ a w, Q a w → Q' a w) :
    ∀ (fuel : Nat) (listed : Array Bool) (took : List Nat) (S : World → Prop) (a : Act) (w : World), treeX P ops Q fuel listed took S a w → treeX P ops Q' fuel listed took S a w
  | 0, listed, took, S, a, w, h => by
    unfold treeX at *
    split
    · rename_i hr; rw [hr] at h; exact hQ _ _ h
    · rename_i hr; rw [hr] at h; exact h
  | fuel + 1, listed, took, S, a, w, h => by
    unfold treeX at *
    split
    · rename_i hr; rw [hr] at h; exact hQ _ _ h
    · rename_i hr
      rw [hr] at h
      dsimp only at h ⊢
      split
      · rename_i hf
        rw [hf] at h
        exact flX_mono h fun o ho v hv => treeX_mono hQ fuel _ _ _ _ _ hv
      · rename_i hf
        rw [hf] at h
        exact allX_mono h fun j hj => chX_mono hj fun o ho v w' S' hv => treeX_mono hQ fuel _ _ _ _ _ hv

theorem DrawX_mono {ops : Array Oper} {Q Q' : Act → World → Prop} (hQ : ∀ a w, Q a w → Q' a w) {a : Act} {w : World} (h : DrawX P ops Q a w) : DrawX P ops Q' a w := by
  unfold DrawX at *
  cases hn : noSelectL ops with
  | false => rw [hn] at h; exact h.elim
  | true =>
    rw [hn] at h
    obtain ⟨S, h1, h2⟩ := h
    exact ⟨S, h1, treeX_mono hQ _ _ _ _ _ _ h2⟩

theorem X_mono (nb : Nat) : ∀ (c : Code) (Q Q' : Exit → Act → World → Prop) (a : Act) (w : World), (∀ e a w, Q e a w → Q' e a w) → X P nb c Q a w → X P nb c Q' a w := by
  intro c
  induction c with
  | skip => intro Q Q' a w hQ h; exact hQ _ _ _ h
  | label l => intro Q Q' a w hQ h; exact hQ _ _ _ h
  | ret => intro Q Q' a w hQ h; exact hQ _ _ _ h
  | exit id => intro Q Q' a w hQ h; exact hQ _ _ _ h
  | goto l => intro Q Q' a w hQ h; exact h.elim
  | refuse s => intro Q Q' a w hQ h; exact h.elim
  | scope c ih =>
    intro Q Q' a w hQ h
    refine ih _ _ a w (fun e a' w' he => ?_) h
    cases e with
    | goto l => exact he
    | _ => exact hQ _ _ _ he
  | rangeFunc f ps x y _ _ => intro Q Q' a w hQ h; exact h.elim
  | region id ops draw =>
    intro Q Q' a w hQ h
    cases draw with
    | false => exact listX_mono (fun a w hq => hQ _ _ _ hq) _ _ _ _ h
    | true => exact DrawX_mono (fun a w hq => hQ _ _ _ hq) h
  | seq c d ihc ihd =>
    intro Q Q' a w hQ h
    refine ihc _ _ a w (fun e a' w' he => ?_) h
    cases e with
    | normal => exact ihd _ _ _ _ hQ he
    | _ => exact hQ _ _ _ he
  | cond c t e iht ihe =>
    intro Q Q' a w hQ h
    exact BoolX.imp h (fun _ => iht _ _ _ _ hQ) (fun _ => ihe _ _ _ _ hQ)
  | block id c ih =>
    intro Q Q' a w hQ h
    refine ih _ _ a w (fun e a' w' he => ?_) h
    cases e with
    | exit id' =>
      simp only [Exit.inBlock] at he ⊢
      split
      · rename_i hid; rw [if_pos hid] at he; exact hQ _ _ _ he
      · rename_i hid; rw [if_neg hid] at he; exact hQ _ _ _ he
    | _ => exact hQ _ _ _ he
  | loop c ih =>
    intro Q Q' a w hQ h
    have h' : LoopX (uniq (dsts c)) (live nb c (uniq (dsts c))) a w fun a' w' again => X P nb c (Exit.then again Q) a' w' := h
    show LoopX (uniq (dsts c)) (live nb c (uniq (dsts c))) a w fun a' w' again => X P nb c (Exit.then again Q') a' w'
    unfold LoopX at h' ⊢
    cases hok : loopOk (uniq (dsts c)) a.tmps.size with
    | false => rw [hok] at h'; exact h'.elim
    | true =>
      rw [hok] at h'
      obtain ⟨I, μ, h0, hr⟩ := h'
      refine ⟨I, μ, h0, fun dv vs w' hl hI => ih _ _ _ _ (fun e a' w' he => ?_) (hr dv vs w' hl hI)⟩
      cases e with
      | normal => exact he
      | _ => exact hQ _ _ _ he

theorem put_agree {ds ls : List Nat} (vs : List Value) (dv : Nat → Value) (a : Act) (hls : ∀ d ∈ ls, d ∈ ds) : Agree ds a (putV vs ls 0 (putD dv ds a)) := by
  have hs := putV_size vs ls 0 (putD dv ds a)
  have hs2 := putD_size dv ds a
  refine ⟨hs.2.trans hs2.2, hs.1.trans hs2.1, fun i hi => ?_⟩
  rw [putV_other _ ls 0 _ (fun h => hi (hls i h)), putD_other _ ds a hi]

theorem X_agree (nb : Nat) : ∀ (c : Code) (Q : Exit → Act → World → Prop) (a : Act) (w : World), X P nb c Q a w → X P nb c (fun e a' w' => Q e a' w' ∧ Agree (dsts c) a a') a w := by
  intro c
  induction c with
  | skip => intro Q a w h; exact ⟨h, Agree.refl _ _⟩
  | label l => intro Q a w h; exact ⟨h, Agree.refl _ _⟩
  | ret => intro Q a w h; exact ⟨h, Agree.refl _ _⟩
  | exit id => intro Q a w h; exact ⟨h, Agree.refl _ _⟩
  | goto l => intro Q a w h; exact h.elim
  | refuse s => intro Q a w h; exact h.elim
  | scope c ih =>
    intro Q a w h
    refine X_mono nb c _ _ a w (fun e a' w' he => ?_) (ih _ a w h)
    cases e with
    | goto l => exact he.1
    | _ => exact he
  | rangeFunc f ps x y _ _ => intro Q a w h; exact h.elim
  | region id ops draw =>
    intro Q a w h
    cases draw with
    | false => exact listX_agree (ds := ops.toList.filterMap (·.dst)) (a0 := a) ops.toList 0 a w (fun o ho d hd => List.mem_filterMap.2 ⟨o, ho, hd⟩) (Agree.refl _ _) h
    | true => exact DrawX_agree h
  | seq c d ihc ihd =>
    intro Q a w h
    refine X_mono nb c _ _ a w (fun e a' w' he => ?_) (ihc _ a w h)
    cases e with
    | normal =>
      refine X_mono nb d _ _ a' w' (fun e a'' w'' he' => ?_) (ihd _ a' w' he.1)
      exact ⟨he'.1, (he.2.mono fun d hd => List.mem_append_left _ hd).trans (he'.2.mono fun d hd => List.mem_append_right _ hd)⟩
    | _ => exact ⟨he.1, he.2.mono fun d hd => List.mem_append_left _ hd⟩
  | cond c t e iht ihe =>
    intro Q a w h
    exact BoolX.imp h (fun _ h => X_mono nb t _ _ a w (fun e a' w' he => ⟨he.1, he.2.mono fun d hd => List.mem_append_left _ hd⟩) (iht _ _ _ h))
      (fun _ h => X_mono nb e _ _ a w (fun e a' w' he => ⟨he.1, he.2.mono fun d hd => List.mem_append_right _ hd⟩) (ihe _ _ _ h))
  | block id c ih =>
    intro Q a w h
    refine X_mono nb c _ _ a w (fun e a' w' he => ?_) (ih _ a w h)
    cases e with
    | exit id' =>
      simp only [Exit.inBlock] at he ⊢
      split
      · rename_i hid; rw [if_pos hid] at he; exact he
      · rename_i hid; rw [if_neg hid] at he; exact he
    | _ => exact he
  | loop c ih =>
    intro Q a w h
    have h' : LoopX (uniq (dsts c)) (live nb c (uniq (dsts c))) a w fun a' w' again => X P nb c (Exit.then again Q) a' w' := h
    show LoopX (uniq (dsts c)) (live nb c (uniq (dsts c))) a w fun a' w' again => X P nb c (Exit.then again (fun e a' w' => Q e a' w' ∧ Agree (dsts (Code.loop c)) a a')) a' w'
    unfold LoopX at h' ⊢
    cases hok : loopOk (uniq (dsts c)) a.tmps.size with
    | false => rw [hok] at h'; exact h'.elim
    | true =>
      rw [hok] at h'
      obtain ⟨I, μ, h0, hr⟩ := h'
      refine ⟨I, μ, h0, fun dv vs w' hl hI => X_mono nb c _ _ _ _ (fun e a' w' he => ?_) (ih _ _ _ (hr dv vs w' hl hI))⟩
      have hag := (put_agree (ls := live nb c (uniq (dsts c))) vs dv a (ds := uniq (dsts c)) (fun d hd => (List.mem_filter.1 hd).1)).mono fun d hd => (mem_uniq (dsts c)).1 hd
      cases e with
      | normal => exact he.1
      | _ => exact ⟨he.1, hag.trans he.2⟩

/-! results -/

theorem mapM_go (f : ResultVar → Sem Value) (w : World) : ∀ (rs : List ResultVar) (acc : List Value) (us : List Value), (∀ (i : Nat) (r : ResultVar), rs[i]? = some r → ∃ u, us[i]? = some u ∧ (f r).run P w = .ok u w) → us.length = rs.length →
    (List.mapM.loop f rs acc).run P w = .ok (acc.reverse ++ us) w
  | [], acc, us, _, hl => by
    have : us = [] := List.eq_nil_of_length_eq_zero (by simpa using hl)
    subst this
    simp [List.mapM.loop]
  | r :: rs, acc, us, h, hl => by
    cases us with
    | nil => simp at hl
    | cons u us =>
      obtain ⟨u', h1, h2⟩ := h 0 r rfl
      simp only [List.getElem?_cons_zero, Option.some.injEq] at h1
      subst h1
      have h3 := mapM_go f w rs (u :: acc) us (fun i r hr => h (i + 1) r (by simpa using hr)) (by simpa using hl)
      simp only [List.mapM.loop, Sem.run_bind, h2, Result.andThen_ok, h3]
      simp

theorem resV_run {Q : Value → World → Prop} {a : Act} {w : World} {tmps : Array Value} (ht : a.tmps = tmps) : ∀ (rs : List ResultVar) (acc : List Value), resV P Q a w rs acc →
    ∃ us : List Value, us.length = rs.length ∧ (∀ (i : Nat) (r : ResultVar), rs[i]? = some r → ∃ u, us[i]? = some u ∧ ((match r with | .tmp t => pure (tmps.getD t undef) | .cell a t => do loadVar t (← asAddr (tmps.getD a undef)) : Sem Value)).run P w = .ok u w) ∧ Q (oneOf (acc ++ us)) w
  | [], acc, h => ⟨[], rfl, fun i r hr => by simp at hr, by rw [List.append_nil]; exact h⟩
  | .tmp t :: rs, acc, h => by
    obtain ⟨us, h1, h2, h3⟩ := resV_run ht rs _ h
    refine ⟨getA a t :: us, by simp [h1], fun i r hr => ?_, by simpa using h3⟩
    cases i with
    | zero =>
      simp only [List.getElem?_cons_zero, Option.some.injEq] at hr
      subst hr
      exact ⟨_, rfl, by subst ht; rfl⟩
    | succ i => exact h2 i r (by simpa using hr)
  | .cell t ty :: rs, acc, h => by
    obtain ⟨v, hv, h⟩ := h
    obtain ⟨us, h1, h2, h3⟩ := resV_run ht rs _ h
    refine ⟨v :: us, by simp [h1], fun i r hr => ?_, by simpa using h3⟩
    cases i with
    | zero =>
      simp only [List.getElem?_cons_zero, Option.some.injEq] at hr
      subst hr
      exact ⟨_, rfl, by subst ht; exact hv⟩
    | succ i => exact h2 i r (by simpa using hr)

theorem results_of {fn : Func} {Q : Value → World → Prop} {a : Act} {w : World} (h : resV P Q a w fn.results.toList []) : ∃ v, (results fn a.tmps).run P w = .ok v w ∧ Q v w := by
  obtain ⟨us, h1, h2, h3⟩ := resV_run rfl _ _ h
  refine ⟨oneOf us, ?_, by simpa using h3⟩
  have h4 := mapM_go (P := P) _ w fn.results.toList [] us h2 h1
  have h5 : fn.results.mapM (m := Sem) (fun r => match r with | .tmp t => pure (a.tmps.getD t undef) | .cell b t => do loadVar t (← asAddr (a.tmps.getD b undef))) = List.toArray <$> (fn.results.toList.mapM fun r => match r with | .tmp t => pure (a.tmps.getD t undef) | .cell b t => do loadVar t (← asAddr (a.tmps.getD b undef))) := Array.mapM_eq_mapM_toList ..
  have h6 : results fn a.tmps = (List.toArray <$> (fn.results.toList.mapM fun r => match r with | .tmp t => pure (a.tmps.getD t undef) | .cell b t => do loadVar t (← asAddr (a.tmps.getD b undef)))) >>= fun vs => pure (if h : vs.size = 1 then vs[0] else .tuple vs) := by
    rw [← h5]; rfl
  rw [h6, Sem.run_bind]
  simp only [map_eq_pure_bind, Sem.run_bind]
  unfold List.mapM
  rw [h4]
  simp only [Result.andThen_ok, Sem.run_pure, List.reverse_nil, List.nil_append]
  congr 1
  match us with
  | [] => rfl
  | [u] => rfl
  | u :: u' :: us => rw [dif_neg (by simp)]; rfl

theorem calls_of_fun {f : FuncId} {fn : Func} {args : Array Value} {w : World} {Q : Value → World → Prop} {nb : Nat} (hm : P.follows .mixedOrders = true) (hf : P.funcs[f]? = some fn)
    (h : FunX P nb fn args w Q) : CallsR P f args w Q := by
  unfold FunX at h
  cases hb : fn.body with
  | none => rw [hb] at h; exact h.elim
  | some c =>
    rw [hb] at h
    refine calls_of_wp hf hb (Code.wp_mono (fun e a w he => ?_) (X_wp nb hm c _ _ _ h))
    have key : ∀ (a : Act) (w : World), (match a.defers with | [] => resV P Q a w fn.results.toList [] | _ :: _ => False) → a.defers = [] ∧ ∃ v, (results fn a.tmps).run P w = .ok v w ∧ ∃ u, Ending.returned v = .returned u ∧ Q u w := by
      intro a w hq
      cases hd : a.defers with
      | cons d ds => rw [hd] at hq; exact hq.elim
      | nil =>
        rw [hd] at hq
        obtain ⟨v, h1, h2⟩ := results_of hq
        exact ⟨rfl, v, h1, v, rfl, h2⟩
    cases e with
    | normal => exact key a w he.1
    | ret => exact key a w he.1
    | _ => exact he.1.elim

end
end Go.Proofs.YtakifgecgmdjcaaGreat.Xf

/-! ### the same reading over a list of slots, every step of which is reckoned at once (for the kernel's sake) -/

namespace Go.Proofs.YtakifgecgmdjcaaGreat.Xf
open Go
set_option linter.unusedVariables false

/-- The steps, by whatever name: in the reading below nothing is asked of them. -/
structure Comb where
  step : Sem Next → World → (Value → World → Prop) → Prop
  stepS : (World → Prop) → Sem Next → (Value → Prop) → Prop
  calls : FuncId → Array Value → World → (Value → World → Prop) → Prop
  bool : Value → Prop → Prop → Prop
  keepT : World → ((World → Prop) → Prop) → Prop
  keepS : (World → Prop) → World → ((World → Prop) → Prop) → Prop
  draw : World → ((World → Prop) → World → Prop) → Prop
  loop : List Value → World → ((Nat → Value) → List Value → World → (List Value → World → Prop) → Prop) → Prop
  loadR : TypeId → Value → World → (Value → Prop) → Prop
  join : ((Nat → Value) → List Value → World → Prop) → ((List Value → World → Prop) → Prop) → Prop

/-- What they are. -/
def std (P : Program) : Comb :=
  { step := StepX P, stepS := StepS P, calls := CallsR P, bool := BoolX, keepT := KeepT, keepS := KeepS, draw := DrawP, loop := LoopV, loadR := LoadR P, join := fun k b => b fun vs w => ∀ dv, k dv vs w }

section
variable (P : Program) (C : Comb)

/-- What stands in a slot: a bool that is known, or a value. -/
inductive Sl where
  | lit (b : Bool)
  | val (v : Value)
def Sl.v : Sl → Value
  | .lit b => .bool b
  | .val v => v

def getK (fr : List Sl) (i : Nat) (k : Sl → Prop) : Prop :=
  match fr with
  | [] => k (.val undef)
  | x :: xs => match i with
    | 0 => k x
    | i + 1 => getK xs i k

def setK {α : Type} (fr : List α) (i : Nat) (v : α) (k : List α → Prop) : Prop :=
  match fr with
  | [] => k []
  | x :: xs => match i with
    | 0 => k (v :: xs)
    | i + 1 => setK xs i v fun ys => k (x :: ys)

def repK {α : Type} (v : α) : Nat → (List α → Prop) → Prop
  | 0, k => k []
  | n + 1, k => repK v n fun l => k (v :: l)

def argK : List Value → List Sl → (List Sl → Prop) → Prop
  | [], l, k => k l
  | x :: xs, l, k => argK xs l fun r => k (.val x :: r)

def slK (fr : List Sl) (x : Operand) (k : Sl → Prop) : Prop :=
  match x with
  | .tmp t => getK fr t k
  | .const v => match v with
    | .bool b => k (.lit b)
    | v => k (.val v)
  | .global g => k (.val (.pointer (some ⟨g, 0, none⟩)))
  | .func f => k (.val (.func (.func f) #[] #[]))

def evK (fr : List Sl) (x : Operand) (k : Value → Prop) : Prop :=
  slK fr x fun s => match s with
    | .lit b => k (.bool b)
    | .val v => k v

def evsK (fr : List Sl) : List Operand → (List Value → Prop) → Prop
  | [], k => k []
  | x :: xs, k => evK fr x fun v => evsK fr xs fun vs => k (v :: vs)

def partsK (fr : List Sl) : List (Nat × Operand) → (List (Nat × Value) → Prop) → Prop
  | [], k => k []
  | (i, x) :: xs, k => evK fr x fun v => partsK fr xs fun vs => k ((i, v) :: vs)

def optK (fr : List Sl) (x : Option Operand) (k : Option Value → Prop) : Prop :=
  match x with
  | none => k none
  | some x => evK fr x fun v => k (some v)

def getsK (fr : List Sl) : List Nat → (List Value → Prop) → Prop
  | [], k => k []
  | d :: ds, k => evK fr (.tmp d) fun v => getsK fr ds fun vs => k (v :: vs)

def putK (fr : List Sl) (d : Option Nat) (v : Sl) (k : List Sl → Prop) : Prop :=
  match d with
  | none => k fr
  | some d => setK fr d v k

def semK (op : Op) (ty : TypeId) (fr : List Sl) (k : Sem Next → Prop) : Prop :=
  match op with
  | .alloc t => k (sAlloc t)
  | .box t x => evK fr x fun x => k (sBox t x)
  | .build t parts => partsK fr parts.toList fun ps => k (sBuild t ps)
  | .buildSlice t n parts => partsK fr parts.toList fun ps => k (sBuildSlice t n ps)
  | .load t x => evK fr x fun x => k (sLoad t x)
  | .store t x y => evK fr x fun x => evK fr y fun y => k (sStore t x y)
  | .nilCheck x => evK fr x fun x => k (sNil x)
  | .binOp op t x y _ => evK fr x fun u => evK fr y fun v => k (sBin op t x y u v)
  | .unOp op _ x => evK fr x fun x => k (sUn op x)
  | .convert s d x => evK fr x fun x => k (sConv s d x)
  | .makeFunc fn first captured => evsK fr first.toList fun f => evsK fr captured.toList fun c => k (sMakeFunc fn f c)
  | .makeSlice t l c => evK fr l fun l => evK fr c fun c => k (sMakeSlice t l c)
  | .slice t x lo hi mx => evK fr x fun x => optK fr lo fun lo => optK fr hi fun hi => optK fr mx fun mx => k (sSlice t x lo hi mx)
  | .fieldAddr t x f => evK fr x fun x => k (sFieldAddr t x f)
  | .field t x f => evK fr x fun x => k (sField t x f)
  | .indexAddr t x ix => evK fr x fun x => evK fr ix fun ix => k (sIndexAddr t x ix)
  | .index t x ix => evK fr x fun x => evK fr ix fun ix => k (sIndex t x ix)
  | .extract x i => evK fr x fun x => k (sExtract x i)
  | .call ⟨.builtin b, args, argTypes⟩ => evsK fr args.toList fun vs => k (sBuiltin b argTypes ty (args.toList.map isConstO) vs)
  | .call ⟨.value f, args, _⟩ => evK fr f fun f => evsK fr args.toList fun vs => k (sCallV f vs)
  | .call ⟨.invoke r m, args, _⟩ => evK fr r fun r => evsK fr args.toList fun vs => k (sInvoke r m vs)
  | .makeInterface t x => evK fr x fun x => k (sIface t x)
  | .makeMap t r => optK fr r fun r => k (sMakeMap t r)
  | .lookup t m x ok => evK fr m fun m => evK fr x fun x => k (sLookup t m x ok)
  | .mapUpdate t m x v => evK fr m fun m => evK fr x fun x => evK fr v fun v => k (sMapUpdate t m x v)
  | .insert t m x v => evK fr m fun m => evK fr x fun x => evK fr v fun v => k (sMapUpdate t m x v)
  | .mapEntry t m x => evK fr m fun m => evK fr x fun x => k (sMapEntry t m x)
  | .entryStore t m s v => evK fr m fun m => evK fr s fun s => evK fr v fun v => k (sEntryStore t m s v)
  | .range t x => evK fr x fun x => k (sRange t x)
  | .next it b => evK fr it fun it => k (sNext it b ty)
  | .entry it => evK fr it fun it => k (sEntry it)
  | _ => False

def pickK (fr : List Sl) (c x y : Operand) (k : Sl → Prop) : Prop :=
  slK fr c fun s => match s with
    | .lit b => match b with
      | true => slK fr x k
      | false => slK fr y k
    | .val _ => False

def opY (o : Oper) (fr : List Sl) (w : World) (K : Sl → World → Prop) : Prop :=
  match o.op with
  | .move x => slK fr x fun v => K v w
  | .assign x => slK fr x fun v => K v w
  | .pick c x y => pickK fr c x y fun v => K v w
  | .call ⟨.value (.func f), args, _⟩ => match callable P f with
    | true => evsK fr args.toList fun vs => C.calls f vs.toArray w fun v w' => K (.val v) w'
    | false => False
  | op => semK op o.type fr fun s => C.step s w fun v w' => K (.val v) w'

def afterY (g : Bool) (o : Oper) (fr : List Sl) (s : Sl) (k : List Sl → Prop) : Prop :=
  match g with
  | true => match s with
    | .lit b => putK fr o.dst (.lit b) k
    | .val v => C.bool v (putK fr o.dst (.lit true) k) (putK fr o.dst (.lit false) k)
  | false => putK fr o.dst s k

def wantedK (ops : Array Oper) (o : Oper) (fr : List Sl) (k : Bool → Prop) : Prop :=
  match o.guard with
  | none => k true
  | some (j, want) => match (ops[j]?).bind (·.dst) with
    | none => k false
    | some d => getK fr d fun s => match s with
      | .lit b => match b, want with
        | true, true => k true
        | false, false => k true
        | _, _ => k false
      | .val v => match v with
        | .tuple _ => k false
        | _ => False

def listY (ops : Array Oper) (Q : List Sl → World → Prop) : Nat → List Oper → List Sl → World → Prop
  | _, [], fr, w => Q fr w
  | i, o :: rest, fr, w => wantedK ops o fr fun b => match b with
    | true => opY P C o fr w fun s w' => afterY C (isGuard ops i) o fr s fun fr' => listY ops Q (i + 1) rest fr' w'
    | false => putK fr o.dst (.val undef) fun fr' => listY ops Q (i + 1) rest fr' w

def readyY (ops : Array Oper) (listed : List Bool) : List Nat :=
  (List.range ops.size).filter fun i => !listed.getD i true && match ops[i]? with
    | some o => o.after.toList.all fun e => !Region.binds .any e || listed.getD e.on false
    | none => false

def freeY (ops : Array Oper) (listed : List Bool) (i : Nat) : Bool :=
  match ops[i]? with
  | none => false
  | some oi => (List.range ops.size).all fun j => j == i || listed.getD j true || match ops[j]? with
      | some oj => oj.after.toList.any (fun e => Region.binds .any e && e.on == i) || apartL ops oi oj
      | none => true

def flY (ops : Array Oper) (i : Nat) (S : World → Prop) (fr : List Sl) (K : List Sl → Prop) : Prop :=
  match ops[i]? with
  | none => False
  | some o => wantedK ops o fr fun b => match b with
    | true => match o.op with
      | .move x => slK fr x fun s => afterY C (isGuard ops i) o fr s K
      | .assign x => slK fr x fun s => afterY C (isGuard ops i) o fr s K
      | .pick c x y => pickK fr c x y fun s => afterY C (isGuard ops i) o fr s K
      | op => semK op o.type fr fun s => C.stepS S s fun v => afterY C (isGuard ops i) o fr (.val v) K
    | false => putK fr o.dst (.val undef) K

def chY (ops : Array Oper) (last : Bool) (i : Nat) (S : World → Prop) (fr : List Sl) (w : World) (K : List Sl → World → (World → Prop) → Prop) : Prop :=
  match ops[i]? with
  | none => False
  | some o => wantedK ops o fr fun b => match b with
    | true => opY P C o fr w fun s w' => match last with
      | true => C.keepT w' fun S' => afterY C (isGuard ops i) o fr s fun fr' => K fr' w' S'
      | false => C.keepS S w' fun S' => afterY C (isGuard ops i) o fr s fun fr' => K fr' w' S'
    | false => putK fr o.dst (.val undef) fun fr' => K fr' w S

/-- the first of rs that may be taken first -/
def findK (ops : Array Oper) (listed : List Bool) (fr : List Sl) (no : Prop) (yes : Nat → Prop) : List Nat → Prop
  | [] => no
  | i :: rs => match freeY ops listed i with
    | false => findK ops listed fr no yes rs
    | true => match ops[i]? with
      | none => findK ops listed fr no yes rs
      | some o => match isFl P o with
        | true => yes i
        | false => wantedK ops o fr fun b => match b with
          | true => findK ops listed fr no yes rs
          | false => yes i

def treeY (ops : Array Oper) (Q : List Sl → World → Prop) : Nat → List Bool → List Nat → (World → Prop) → List Sl → World → Prop
  | 0, listed, _, _, fr, w => match readyY ops listed with
    | [] => Q fr w
    | _ :: _ => False
  | fuel + 1, listed, took, S, fr, w => match readyY ops listed with
    | [] => Q fr w
    | r :: rs => findK P ops listed fr
        (allX (r :: rs) fun i => chY P C ops (lastB ops took i) i S fr w fun fr' w' S' => setK listed i true fun l => treeY ops Q fuel l took S' fr' w')
        (fun i => flY C ops i (stP ops i S) fr fun fr' => setK listed i true fun l => treeY ops Q fuel l (tookP ops i took) S fr' w) (r :: rs)

def DrawY (ops : Array Oper) (Q : List Sl → World → Prop) (fr : List Sl) (w : World) : Prop :=
  match noSelectL ops with
  | true => C.draw w fun S w' => repK false ops.size fun l => treeY P C ops Q ops.size l [] S fr w'
  | false => False

def putVK (vs : List Value) : List Nat → Nat → List Sl → (List Sl → Prop) → Prop
  | [], _, fr, k => k fr
  | d :: ds, j, fr, k => setK fr d (.val (vs.getD j undef)) fun fr' => putVK vs ds (j + 1) fr' k

def putDK (dv : Nat → Value) : List Nat → List Sl → (List Sl → Prop) → Prop
  | [], fr, k => k fr
  | d :: ds, fr, k => setK fr d (.val (dv d)) fun fr' => putDK dv ds fr' k

def LoopY (ds ls : List Nat) (fr : List Sl) (w : World) (body : List Sl → World → (List Sl → World → Prop) → Prop) : Prop :=
  match loopOk ds fr.length with
  | true => getsK fr ls fun init => C.loop init w fun dv vs w' again => putDK dv ds fr fun fr1 => putVK vs ls 0 fr1 fun fr2 => body fr2 w' fun fr' w'' => getsK fr' ls fun vs' => again vs' w''
  | false => False

def memN (i : Nat) : List Nat → Bool
  | [] => false
  | j :: js => match Nat.beq i j with
    | true => true
    | false => memN i js
/-- the first region of a code: by it a place is named where ways meet -/
def firstId : Code → Option Nat
  | .region id _ _ => some id
  | .seq a b => match firstId a with
    | some i => some i
    | none => firstId b
  | .cond _ a b => match firstId a with
    | some i => some i
    | none => firstId b
  | .block _ c => firstId c
  | .loop c => firstId c
  | .scope c => firstId c
  | _ => none
def jointB (js : List Nat) (d : Code) : Bool := match firstId d with
  | some i => memN i js
  | none => false

def Y (nb : Nat) (js : List Nat) : Code → (Exit → List Sl → World → Prop) → List Sl → World → Prop
  | .skip, Q, fr, w => Q .normal fr w
  | .label _, Q, fr, w => Q .normal fr w
  | .ret, Q, fr, w => Q .ret fr w
  | .exit id, Q, fr, w => Q (.exit id) fr w
  | .seq c d, Q, fr, w => match jointB js d with
    | false => Y nb js c (fun e fr' w' => match e with | .normal => Y nb js d Q fr' w' | e => Q e fr' w') fr w
    | true => match loopOk (uniq (dsts c)) fr.length with
      | true => C.join (fun dv vs w' => putDK dv (uniq (dsts c)) fr fun fr1 => putVK vs (live nb d (uniq (dsts c))) 0 fr1 fun fr2 => Y nb js d Q fr2 w')
          (fun j => Y nb js c (fun e fr' w' => match e with | .normal => getsK fr' (live nb d (uniq (dsts c))) fun vs => j vs w' | e => Q e fr' w') fr w)
      | false => False
  | .cond c t e, Q, fr, w => slK fr c fun s => match s with
    | .lit b => match b with
      | true => Y nb js t Q fr w
      | false => Y nb js e Q fr w
    | .val v => C.bool v (Y nb js t Q fr w) (Y nb js e Q fr w)
  | .block id c, Q, fr, w => Y nb js c (fun e fr' w' => match e with | .exit id' => (match Nat.beq id' id with | true => Q .normal fr' w' | false => Q (.exit id') fr' w') | e => Q e fr' w') fr w
  | .loop c, Q, fr, w => LoopY C (uniq (dsts c)) (live nb c (uniq (dsts c))) fr w fun fr' w' again => Y nb js c (fun e fr'' w'' => match e with | .normal => again fr'' w'' | e => Q e fr'' w'') fr' w'
  | .scope c, Q, fr, w => Y nb js c (fun e fr' w' => match e with | .goto _ => False | e => Q e fr' w') fr w
  | .region _ ops draw, Q, fr, w => match draw with
    | false => listY P C ops (Q .normal) 0 ops.toList fr w
    | true => DrawY P C ops (Q .normal) fr w
  | _, _, _, _ => False

def resY (Q : Value → World → Prop) (fr : List Sl) (w : World) : List ResultVar → List Value → Prop
  | [], acc => Q (oneOf acc) w
  | .tmp t :: rs, acc => evK fr (.tmp t) fun v => resY Q fr w rs (acc ++ [v])
  | .cell t ty :: rs, acc => evK fr (.tmp t) fun v => C.loadR ty v w fun u => resY Q fr w rs (acc ++ [u])

def FunY (nb : Nat) (js : List Nat) (fn : Func) (args : List Value) (w : World) (Q : Value → World → Prop) : Prop :=
  match fn.body with
  | some c => repK (.val undef) (fn.ntmps - args.length) fun l => argK args l fun fr => Y P C nb js c (fun e fr' w' => match e with
      | .ret => resY C Q fr' w' fn.results.toList []
      | .normal => resY C Q fr' w' fn.results.toList []
      | _ => False) fr w
  | none => False
end

section
variable {P : Program}

def actOf (dfs : List Deferred) (fr : List Sl) : Act := { tmps := (fr.map Sl.v).toArray, defers := dfs }
variable {dfs : List Deferred}

theorem getK_eq (k : Sl → Prop) : ∀ (fr : List Sl) (i : Nat), getK fr i k = k (fr.getD i (.val undef))
  | [], i => rfl
  | x :: xs, 0 => rfl
  | x :: xs, i + 1 => by unfold getK; simp only [getK_eq k xs i, List.getD_cons_succ]

theorem setK_eq {α : Type} : ∀ (fr : List α) (i : Nat) (v : α) (k : List α → Prop), setK fr i v k = k (fr.set i v)
  | [], i, v, k => rfl
  | x :: xs, 0, v, k => rfl
  | x :: xs, i + 1, v, k => by unfold setK; simp only [setK_eq xs i, List.set_cons_succ]

theorem repK_eq {α : Type} (v : α) : ∀ (n : Nat) (k : List α → Prop), repK v n k = k (List.replicate n v)
  | 0, k => rfl
  | n + 1, k => by unfold repK; rw [repK_eq v n]; rfl

theorem argK_eq : ∀ (xs : List Value) (l : List Sl) (k : List Sl → Prop), argK xs l k = k (xs.map .val ++ l)
  | [], l, k => rfl
  | x :: xs, l, k => by unfold argK; rw [argK_eq xs l]; rfl

theorem getD_v (fr : List Sl) (i : Nat) : (fr.getD i (.val undef)).v = (fr.map Sl.v).getD i undef := by
  simp only [List.getD_eq_getElem?_getD, List.getElem?_map]
  cases fr[i]? <;> rfl

theorem getA_actOf (fr : List Sl) (i : Nat) : getA (actOf dfs fr) i = (fr.getD i (.val undef)).v := by
  rw [getD_v]
  simp [getA, actOf]

theorem eval_actOf (fr : List Sl) (i : Nat) : (actOf dfs fr).eval (.tmp i) = (fr.getD i (.val undef)).v := getA_actOf fr i

theorem slK_out {fr : List Sl} {x : Operand} {k : Sl → Prop} (h : slK fr x k) : ∃ s, s.v = (actOf dfs fr).eval x ∧ k s := by
  cases x with
  | tmp t =>
    unfold slK at h
    simp only [getK_eq] at h
    exact ⟨_, (eval_actOf fr t).symm, h⟩
  | const v =>
    cases v with
    | bool b => exact ⟨.lit b, rfl, h⟩
    | _ => exact ⟨_, rfl, h⟩
  | global g => exact ⟨_, rfl, h⟩
  | func f => exact ⟨_, rfl, h⟩

theorem evK_out {fr : List Sl} {x : Operand} {k : Value → Prop} (h : evK fr x k) : k ((actOf dfs fr).eval x) := by
  obtain ⟨s, hs, h⟩ := slK_out h
  cases s with
  | lit b => rw [← hs]; exact h
  | val v => rw [← hs]; exact h

theorem evsK_out {fr : List Sl} : ∀ (xs : List Operand) {k : List Value → Prop}, evsK fr xs k → k (xs.map (actOf dfs fr).eval)
  | [], k, h => h
  | x :: xs, k, h => evsK_out (k := fun vs => k ((actOf dfs fr).eval x :: vs)) xs (evK_out (x := x) h)

theorem partsK_out {fr : List Sl} : ∀ (xs : List (Nat × Operand)) {k : List (Nat × Value) → Prop}, partsK fr xs k → k (xs.map fun p => (p.1, (actOf dfs fr).eval p.2))
  | [], k, h => h
  | (i, x) :: xs, k, h => partsK_out (k := fun vs => k ((i, (actOf dfs fr).eval x) :: vs)) xs (evK_out (x := x) h)

theorem optK_out {fr : List Sl} {x : Option Operand} {k : Option Value → Prop} (h : optK fr x k) : k (x.map (actOf dfs fr).eval) := by
  cases x with
  | none => exact h
  | some x => exact evK_out (x := x) (k := fun v => k (some v)) h

theorem getsK_out {fr : List Sl} : ∀ (ds : List Nat) {k : List Value → Prop}, getsK fr ds k → k (ds.map (getA (actOf dfs fr)))
  | [], k, h => h
  | d :: ds, k, h => getsK_out (k := fun vs => k (getA (actOf dfs fr) d :: vs)) ds (evK_out (x := .tmp d) h)

theorem put_actOf (fr : List Sl) (d : Option Nat) (s : Sl) : (actOf dfs fr).put d s.v = actOf dfs (match d with | none => fr | some d => fr.set d s) := by
  cases d with
  | none => rfl
  | some d => simp [Act.put, actOf, List.map_set]

theorem putK_eq (fr : List Sl) (d : Option Nat) (v : Sl) (k : List Sl → Prop) : putK fr d v k = k (match d with | none => fr | some d => fr.set d v) := by
  cases d with
  | none => rfl
  | some d => exact setK_eq fr d v k

theorem putK_out {fr : List Sl} {d : Option Nat} {s : Sl} {k : List Sl → Prop} (h : putK fr d s k) : ∃ fr', (actOf dfs fr).put d s.v = actOf dfs fr' ∧ k fr' := by
  rw [putK_eq] at h
  exact ⟨_, put_actOf fr d s, h⟩

theorem semK_out {o : Oper} {fr : List Sl} {k : Sem Next → Prop} (h : semK o.op o.type fr k) : k (semX (actOf dfs fr) o) := by
  obtain ⟨dst, op, type, pos, after, guard⟩ := o
  cases op <;> simp only [semK] at h
  all_goals first
    | exact h.elim
    | exact h
    | exact evK_out h
    | exact partsK_out _ h
    | exact evK_out (evK_out h)
    | exact evK_out (evK_out (evK_out h))
    | exact optK_out h
    | exact evsK_out _ (evsK_out _ h)
    | exact optK_out (optK_out (optK_out (evK_out h)))
    | skip
  case call c =>
    obtain ⟨callee, args, ats⟩ := c
    cases callee with
    | value f => exact evsK_out _ (evK_out h)
    | invoke r m => exact evsK_out _ (evK_out h)
    | builtin b => exact evsK_out _ h

theorem pickK_out {fr : List Sl} {c x y : Operand} {k : Sl → Prop} (h : pickK fr c x y k) :
    ∃ (b : Bool) (s : Sl), (actOf dfs fr).eval c = .bool b ∧ s.v = (if b then (actOf dfs fr).eval x else (actOf dfs fr).eval y) ∧ k s := by
  obtain ⟨s, hs, h⟩ := slK_out h
  cases s with
  | val v => exact h.elim
  | lit b =>
    cases b with
    | true => obtain ⟨s, h1, h2⟩ := slK_out h; exact ⟨true, s, hs.symm, h1, h2⟩
    | false => obtain ⟨s, h1, h2⟩ := slK_out h; exact ⟨false, s, hs.symm, h1, h2⟩

theorem run_sPick (b : Bool) (x y : Value) (w : World) : (sPick (.bool b) x y).run P w = .ok (.value (if b then x else y)) w := rfl

theorem afterY_out {g : Bool} {o : Oper} {fr : List Sl} {s : Sl} {k : List Sl → Prop} {k' : Act → Prop} (hh : afterY (std P) g o fr s k) (hk : ∀ fr, k fr → k' (actOf dfs fr)) : after g o (actOf dfs fr) s.v k' := by
  have step : ∀ u : Sl, putK fr o.dst u k → k' ((actOf dfs fr).put o.dst u.v) := fun u hu => by
    obtain ⟨fr', he, hf⟩ := putK_out hu
    rw [he]
    exact hk _ hf
  cases g with
  | true =>
    cases s with
    | val v => exact BoolX.imp hh (fun _ => step (.lit true)) (fun _ => step (.lit false))
    | lit b =>
      cases b with
      | true => exact ⟨⟨true, rfl⟩, fun _ => step (.lit true) hh, fun h => (by cases h)⟩
      | false => exact ⟨⟨false, rfl⟩, fun h => (by cases h), fun _ => step (.lit false) hh⟩
  | false => exact step _ hh

theorem wantedK_out {ops : Array Oper} {o : Oper} {fr : List Sl} {k : Bool → Prop} (h : wantedK ops o fr k) : k (Region.wanted o (yielded ops (actOf dfs fr).tmps)) := by
  unfold wantedK at h
  unfold Region.wanted
  cases hg : o.guard with
  | none => rw [hg] at h; exact h
  | some gw =>
    obtain ⟨j, want⟩ := gw
    rw [hg] at h
    simp only at h ⊢
    unfold yielded
    cases hd : (ops[j]?).bind (·.dst) with
    | none => rw [hd] at h; simpa using h
    | some d =>
      rw [hd] at h
      simp only [getK_eq] at h
      have ht : (actOf dfs fr).tmps[d]? = (fr[d]?).map Sl.v := by simp [actOf]
      simp only [Option.bind_some, ht]
      cases hf : fr[d]? with
      | none =>
        have : fr.getD d (.val undef) = .val undef := by simp [List.getD_eq_getElem?_getD, hf]
        rw [this] at h
        exact h
      | some s =>
        have : fr.getD d (.val undef) = s := by simp [List.getD_eq_getElem?_getD, hf]
        rw [this] at h
        cases s with
        | lit b => cases b <;> cases want <;> exact h
        | val v =>
          cases v with
          | tuple vs => exact h
          | _ => exact h.elim

theorem opY_out {o : Oper} {fr : List Sl} {w : World} {K : Sl → World → Prop} (h : opY P (std P) o fr w K) : opX P o (actOf dfs fr) w fun v w' => ∃ s : Sl, s.v = v ∧ K s w' := by
  unfold opY at h
  unfold opX
  split at h
  · rename_i x hx; simp only [hx]; exact slK_out (dfs := dfs) h
  · rename_i x hx; simp only [hx]; exact slK_out (dfs := dfs) h
  · rename_i c x y hx
    simp only [hx]
    obtain ⟨b, s, h1, h2, h3⟩ := pickK_out (dfs := dfs) h
    have hs : semX (actOf dfs fr) o = sPick ((actOf dfs fr).eval c) ((actOf dfs fr).eval x) ((actOf dfs fr).eval y) := by unfold semX; rw [hx]
    rw [hs, h1]
    unfold StepX
    rw [run_sPick, ← h2]
    exact ⟨s, rfl, h3⟩
  · rename_i f args ats hx
    simp only [hx]
    cases hc : callable P f with
    | true => rw [hc] at h; exact CallsR.mono (evsK_out (dfs := dfs) _ h) fun v w' hv => ⟨.val v, rfl, hv⟩
    | false => rw [hc] at h; exact h.elim
  · rename_i h1 h2 h3 h4
    have h5 := StepX.mono (semK_out (dfs := dfs) h) (k' := fun v w' => ∃ s : Sl, s.v = v ∧ K s w') fun v w' hv => ⟨.val v, rfl, hv⟩
    split
    · rename_i x hx; exact absurd hx (h1 x)
    · rename_i x hx; exact absurd hx (h2 x)
    · rename_i f args ats hx; exact absurd hx (h4 f args ats)
    · exact h5

theorem listY_out {ops : Array Oper} {Q : List Sl → World → Prop} {Q' : Act → World → Prop} (hQ : ∀ fr w, Q fr w → Q' (actOf dfs fr) w) :
    ∀ (l : List Oper) (i : Nat) (fr : List Sl) (w : World), listY P (std P) ops Q i l fr w → listX P ops Q' i l (actOf dfs fr) w
  | [], _, fr, w, h => hQ fr w h
  | o :: rest, i, fr, w, h => by
    unfold listY at h
    unfold listX
    have h' := wantedK_out (dfs := dfs) h
    cases hw : Region.wanted o (yielded ops (actOf dfs fr).tmps) with
    | true =>
      rw [hw] at h'
      exact opX_mono (opY_out h') fun v w' ⟨s, hs, hv⟩ => hs ▸ afterY_out (dfs := dfs) hv fun fr' hf => listY_out hQ rest _ fr' w' hf
    | false =>
      rw [hw] at h'
      obtain ⟨fr', he, hf⟩ := putK_out (dfs := dfs) h'
      simp only
      rw [show undef = (Sl.val undef).v from rfl, he]
      exact listY_out hQ rest _ fr' w hf

theorem readyY_eq (ops : Array Oper) (listed : List Bool) : readyY ops listed = readyL ops listed.toArray := by
  unfold readyY readyL
  simp only [List.getD_eq_getElem?_getD, Array.getD_eq_getD_getElem?, List.getElem?_toArray]
theorem freeY_eq (ops : Array Oper) (listed : List Bool) (i : Nat) : freeY ops listed i = freeL ops listed.toArray i := by
  unfold freeY freeL
  simp only [List.getD_eq_getElem?_getD, Array.getD_eq_getD_getElem?, List.getElem?_toArray]

theorem flY_out {ops : Array Oper} {i : Nat} {S : World → Prop} {fr : List Sl} {K : List Sl → Prop} {K' : Act → Prop} (h : flY (std P) ops i S fr K) (hk : ∀ fr, K fr → K' (actOf dfs fr)) : flX P ops i S (actOf dfs fr) K' := by
  unfold flY at h
  unfold flX
  cases ho : ops[i]? with
  | none => rw [ho] at h; exact h.elim
  | some o =>
    rw [ho] at h
    have h' := wantedK_out (dfs := dfs) h
    simp only
    cases hw : Region.wanted o (yielded ops (actOf dfs fr).tmps) with
    | false =>
      rw [hw] at h'
      obtain ⟨fr', he, hf⟩ := putK_out (dfs := dfs) h'
      simp only
      rw [show undef = (Sl.val undef).v from rfl, he]
      exact hk _ hf
    | true =>
      rw [hw] at h'
      simp only at h' ⊢
      split at h'
      · rename_i x hx; simp only [hx]; obtain ⟨s, hs, hv⟩ := slK_out (dfs := dfs) h'; exact hs ▸ afterY_out (dfs := dfs) hv hk
      · rename_i x hx; simp only [hx]; obtain ⟨s, hs, hv⟩ := slK_out (dfs := dfs) h'; exact hs ▸ afterY_out (dfs := dfs) hv hk
      · rename_i c x y hx
        simp only [hx]
        obtain ⟨b, s, h1, h2, h3⟩ := pickK_out (dfs := dfs) h'
        have hs : semX (actOf dfs fr) o = sPick ((actOf dfs fr).eval c) ((actOf dfs fr).eval x) ((actOf dfs fr).eval y) := by unfold semX; rw [hx]
        rw [hs, h1]
        exact ⟨s.v, fun w _ => by rw [run_sPick, ← h2], afterY_out (dfs := dfs) h3 hk⟩
      · rename_i h1 h2 h3
        obtain ⟨v, hv, hr⟩ := semK_out (dfs := dfs) h'
        have h5 : StepS P S (semX (actOf dfs fr) o) fun v => after (isGuard ops i) o (actOf dfs fr) v K' := ⟨v, hv, afterY_out (dfs := dfs) (s := .val v) hr hk⟩
        split
        · rename_i x hx; exact absurd hx (h1 x)
        · rename_i x hx; exact absurd hx (h2 x)
        · exact h5

theorem chY_out {ops : Array Oper} {l : Bool} {i : Nat} {S : World → Prop} {fr : List Sl} {w : World} {K : List Sl → World → (World → Prop) → Prop} {K' : Act → World → (World → Prop) → Prop} (h : chY P (std P) ops l i S fr w K)
    (hk : ∀ fr w S, K fr w S → K' (actOf dfs fr) w S) : chX P ops l i S (actOf dfs fr) w K' := by
  unfold chY at h
  unfold chX
  cases ho : ops[i]? with
  | none => rw [ho] at h; exact h.elim
  | some o =>
    rw [ho] at h
    have h' := wantedK_out (dfs := dfs) h
    simp only
    cases hw : Region.wanted o (yielded ops (actOf dfs fr).tmps) with
    | false =>
      rw [hw] at h'
      obtain ⟨fr', he, hf⟩ := putK_out (dfs := dfs) h'
      simp only
      rw [show undef = (Sl.val undef).v from rfl, he]
      exact hk _ _ _ hf
    | true =>
      rw [hw] at h'
      refine opX_mono (opY_out h') fun v w' ⟨s, hs, hv⟩ => ?_
      subst hs
      cases l with
      | true => obtain ⟨S', h1, h2⟩ := hv; exact ⟨S', h1, afterY_out (dfs := dfs) h2 fun fr' hf => hk _ _ _ hf⟩
      | false => obtain ⟨S', h0, h1, h2⟩ := hv; exact ⟨S', h0, h1, afterY_out (dfs := dfs) h2 fun fr' hf => hk _ _ _ hf⟩

theorem findK_out {ops : Array Oper} {listed : List Bool} {fr : List Sl} {no : Prop} {yes : Nat → Prop} : ∀ rs : List Nat, findK P ops listed fr no yes rs →
    (∃ i, rs.find? (flAt P ops listed.toArray (actOf dfs fr)) = some i ∧ yes i) ∨ (rs.find? (flAt P ops listed.toArray (actOf dfs fr)) = none ∧ no)
  | [], h => .inr ⟨rfl, h⟩
  | i :: rs, h => by
    unfold findK at h
    rw [freeY_eq] at h
    have hfl : flAt P ops listed.toArray (actOf dfs fr) i = match ops[i]? with
      | some o => (isFl P o || !Region.wanted o (yielded ops (actOf dfs fr).tmps)) && freeL ops listed.toArray i
      | none => false := rfl
    have skip : flAt P ops listed.toArray (actOf dfs fr) i = false → findK P ops listed fr no yes rs →
        (∃ j, (i :: rs).find? (flAt P ops listed.toArray (actOf dfs fr)) = some j ∧ yes j) ∨ ((i :: rs).find? (flAt P ops listed.toArray (actOf dfs fr)) = none ∧ no) := fun hf hr => by
      rw [List.find?_cons, hf]
      exact findK_out rs hr
    cases hfr : freeL ops listed.toArray i with
    | false =>
      rw [hfr] at h
      refine skip ?_ h
      rw [hfl, hfr]
      cases ops[i]? <;> simp
    | true =>
      rw [hfr] at h
      simp only at h
      cases ho : ops[i]? with
      | none =>
        rw [ho] at h
        exact skip (by rw [hfl, ho]) h
      | some o =>
        rw [ho] at h
        simp only at h
        cases hi : isFl P o with
        | true =>
          rw [hi] at h
          refine .inl ⟨i, ?_, h⟩
          rw [List.find?_cons, hfl, ho, hfr]
          simp [hi]
        | false =>
          rw [hi] at h
          simp only at h
          have h' := wantedK_out (dfs := dfs) h
          cases hw : Region.wanted o (yielded ops (actOf dfs fr).tmps) with
          | true =>
            rw [hw] at h'
            refine skip ?_ h'
            rw [hfl, ho]
            simp [hi, hw]
          | false =>
            rw [hw] at h'
            refine .inl ⟨i, ?_, h'⟩
            rw [List.find?_cons, hfl, ho, hfr]
            simp [hi, hw]

theorem treeY_out {ops : Array Oper} {Q : List Sl → World → Prop} {Q' : Act → World → Prop} (hQ : ∀ fr w, Q fr w → Q' (actOf dfs fr) w) :
    ∀ (fuel : Nat) (listed : List Bool) (took : List Nat) (S : World → Prop) (fr : List Sl) (w : World), treeY P (std P) ops Q fuel listed took S fr w → treeX P ops Q' fuel listed.toArray took S (actOf dfs fr) w
  | 0, listed, took, S, fr, w, h => by
    unfold treeY at h
    unfold treeX
    rw [readyY_eq] at h
    split
    · rename_i hr; rw [hr] at h; exact hQ _ _ h
    · rename_i hr; rw [hr] at h; exact h
  | fuel + 1, listed, took, S, fr, w, h => by
    unfold treeY at h
    unfold treeX
    rw [readyY_eq] at h
    split
    · rename_i hr; rw [hr] at h; exact hQ _ _ h
    · rename_i r rs hr
      rw [hr] at h
      simp only at h
      rcases findK_out _ h with ⟨i, hf, hy⟩ | ⟨hf, hn⟩
      · rw [hf]
        refine flY_out hy fun fr' hk => ?_
        rw [setK_eq] at hk
        have := treeY_out hQ fuel _ _ _ _ _ hk
        simpa using this
      · rw [hf]
        refine allX_mono hn fun i hi => chY_out hi fun fr' w' S' hk => ?_
        rw [setK_eq] at hk
        have := treeY_out hQ fuel _ _ _ _ _ hk
        simpa using this

theorem DrawY_out {ops : Array Oper} {Q : List Sl → World → Prop} {Q' : Act → World → Prop} (hQ : ∀ fr w, Q fr w → Q' (actOf dfs fr) w) {fr : List Sl} {w : World} (h : DrawY P (std P) ops Q fr w) : DrawX P ops Q' (actOf dfs fr) w := by
  unfold DrawY at h
  unfold DrawX
  cases hn : noSelectL ops with
  | false => rw [hn] at h; exact h.elim
  | true =>
    rw [hn] at h
    obtain ⟨S, h1, h2⟩ := h
    refine ⟨S, h1, ?_⟩
    rw [repK_eq] at h2
    have := treeY_out hQ _ _ _ _ _ _ h2
    simpa using this

theorem putVK_eq (vs : List Value) : ∀ (ds : List Nat) (j : Nat) (fr : List Sl) (k : List Sl → Prop), putVK vs ds j fr k → ∃ fr', putV vs ds j (actOf dfs fr) = actOf dfs fr' ∧ k fr'
  | [], _, fr, k, h => ⟨fr, rfl, h⟩
  | d :: ds, j, fr, k, h => by
    unfold putVK at h
    rw [setK_eq] at h
    obtain ⟨fr', h1, h2⟩ := putVK_eq vs ds (j + 1) _ k h
    refine ⟨fr', ?_, h2⟩
    rw [← h1]
    show putV vs ds (j + 1) ((actOf dfs fr).put (some d) (Sl.val (vs.getD j undef)).v) = _
    rw [put_actOf]

theorem putDK_eq (dv : Nat → Value) : ∀ (ds : List Nat) (fr : List Sl) (k : List Sl → Prop), putDK dv ds fr k → ∃ fr', putD dv ds (actOf dfs fr) = actOf dfs fr' ∧ k fr'
  | [], fr, k, h => ⟨fr, rfl, h⟩
  | d :: ds, fr, k, h => by
    unfold putDK at h
    rw [setK_eq] at h
    obtain ⟨fr', h1, h2⟩ := putDK_eq dv ds _ k h
    refine ⟨fr', ?_, h2⟩
    rw [← h1]
    show putD dv ds ((actOf dfs fr).put (some d) (Sl.val (dv d)).v) = _
    rw [put_actOf]

theorem Y_out {nb : Nat} {js : List Nat} : ∀ (c : Code) (Q : Exit → List Sl → World → Prop) (Q' : Exit → Act → World → Prop) (fr : List Sl) (w : World), (∀ e fr w, Q e fr w → Q' e (actOf dfs fr) w) → Y P (std P) nb js c Q fr w → X P nb c Q' (actOf dfs fr) w := by
  intro c
  induction c with
  | skip => intro Q Q' fr w hQ h; exact hQ _ _ _ h
  | label l => intro Q Q' fr w hQ h; exact hQ _ _ _ h
  | ret => intro Q Q' fr w hQ h; exact hQ _ _ _ h
  | exit id => intro Q Q' fr w hQ h; exact hQ _ _ _ h
  | goto l => intro Q Q' fr w hQ h; exact h.elim
  | refuse s => intro Q Q' fr w hQ h; exact h.elim
  | scope c ih =>
    intro Q Q' fr w hQ h
    refine ih _ _ _ _ (fun e fr' w' he => ?_) h
    cases e with
    | goto l => exact he
    | _ => exact hQ _ _ _ he
  | rangeFunc f ps x y _ _ => intro Q Q' fr w hQ h; exact h.elim
  | region id ops draw =>
    intro Q Q' fr w hQ h
    cases draw with
    | false => exact listY_out (fun fr w hq => hQ _ _ _ hq) _ _ _ _ h
    | true => exact DrawY_out (fun fr w hq => hQ _ _ _ hq) h
  | seq c d ihc ihd =>
    intro Q Q' fr w hQ h
    have h' : (match jointB js d with
      | false => Y P (std P) nb js c (fun e fr' w' => match e with | .normal => Y P (std P) nb js d Q fr' w' | e => Q e fr' w') fr w
      | true => match loopOk (uniq (dsts c)) fr.length with
        | true => Y P (std P) nb js c (fun e fr' w' => match e with | .normal => getsK fr' (live nb d (uniq (dsts c))) fun vs => ∀ dv, putDK dv (uniq (dsts c)) fr fun fr1 => putVK vs (live nb d (uniq (dsts c))) 0 fr1 fun fr2 => Y P (std P) nb js d Q fr2 w' | e => Q e fr' w') fr w
        | false => False) := h
    cases hj : jointB js d with
    | false =>
      rw [hj] at h'
      refine ihc _ _ _ _ (fun e fr' w' he => ?_) h'
      cases e with
      | normal => exact ihd _ _ _ _ hQ he
      | _ => exact hQ _ _ _ he
    | true =>
      rw [hj] at h'
      dsimp only at h'
      cases hok : loopOk (uniq (dsts c)) fr.length with
      | false => rw [hok] at h'; exact h'.elim
      | true =>
        rw [hok] at h'
        dsimp only at h'
        have hsz : (actOf dfs fr).tmps.size = fr.length := by simp [actOf]
        simp only [loopOk, Bool.and_eq_true, List.all_eq_true, Nat.blt_eq] at hok
        obtain ⟨hb, hn⟩ := hok
        have hn := nodupB_spec _ hn
        have h1 := ihc _ (fun e a' w' => match e with
          | .normal => ∃ fr', a' = actOf dfs fr' ∧ getsK fr' (live nb d (uniq (dsts c))) fun vs => ∀ dv, putDK dv (uniq (dsts c)) fr fun fr1 => putVK vs (live nb d (uniq (dsts c))) 0 fr1 fun fr2 => Y P (std P) nb js d Q fr2 w'
          | e => Q' e a' w') _ _ (fun e fr' w' he => by
            cases e with
            | normal => exact ⟨fr', rfl, he⟩
            | _ => exact hQ _ _ _ he) h'
        refine X_mono nb c _ _ _ _ (fun e a' w' he => ?_) (X_agree nb c _ _ _ h1)
        obtain ⟨he, hag⟩ := he
        cases e with
        | normal =>
          obtain ⟨fr', rfl, hk⟩ := he
          have hk := getsK_out (dfs := dfs) _ hk (getA (actOf dfs fr'))
          obtain ⟨fr1, e1, h2⟩ := putDK_eq (dfs := dfs) _ _ _ _ hk
          obtain ⟨fr2, e2, h3⟩ := putVK_eq (dfs := dfs) _ _ _ _ _ h2
          have hag' : Agree (uniq (dsts c)) (actOf dfs fr) (actOf dfs fr') := hag.mono fun t ht => (mem_uniq (dsts c)).2 ht
          have hls : ∀ t ∈ live nb d (uniq (dsts c)), t ∈ uniq (dsts c) := fun t ht => (List.mem_filter.1 ht).1
          have hback := put_back hag' (show (live nb d (uniq (dsts c))).Nodup from hn.filter _) (fun t ht => by rw [hsz]; exact hb t ht) hls
          show X P nb d Q' (actOf dfs fr') w'
          rw [hback, e1, e2]
          exact ihd _ _ _ _ hQ h3
        | _ => exact he
  | cond c t e iht ihe =>
    intro Q Q' fr w hQ h
    obtain ⟨s, hs, h'⟩ := slK_out (dfs := dfs) h
    show BoolX _ _ _
    rw [← hs]
    cases s with
    | val v => exact BoolX.imp h' (fun _ => iht _ _ _ _ hQ) (fun _ => ihe _ _ _ _ hQ)
    | lit b =>
      cases b with
      | true => exact ⟨⟨true, rfl⟩, fun _ => iht _ _ _ _ hQ h', fun h => (by cases h)⟩
      | false => exact ⟨⟨false, rfl⟩, fun h => (by cases h), fun _ => ihe _ _ _ _ hQ h'⟩
  | block id c ih =>
    intro Q Q' fr w hQ h
    refine ih _ _ _ _ (fun e fr' w' he => ?_) h
    cases e with
    | exit id' =>
      simp only at he
      simp only [Exit.inBlock]
      cases hb : Nat.beq id' id with
      | true => rw [hb] at he; rw [if_pos (Nat.eq_of_beq_eq_true hb)]; exact hQ _ _ _ he
      | false => rw [hb] at he; rw [if_neg (Nat.ne_of_beq_eq_false hb)]; exact hQ _ _ _ he
    | _ => exact hQ _ _ _ he
  | loop c ih =>
    intro Q Q' fr w hQ h
    have h' : LoopY (std P) (uniq (dsts c)) (live nb c (uniq (dsts c))) fr w fun fr' w' again => Y P (std P) nb js c (fun e fr'' w'' => match e with | .normal => again fr'' w'' | e => Q e fr'' w'') fr' w' := h
    show LoopX (uniq (dsts c)) (live nb c (uniq (dsts c))) (actOf dfs fr) w fun a' w' again => X P nb c (Exit.then again Q') a' w'
    unfold LoopY at h'
    unfold LoopX
    have hsz : (actOf dfs fr).tmps.size = fr.length := by simp [actOf]
    rw [hsz]
    cases hok : loopOk (uniq (dsts c)) fr.length with
    | false => rw [hok] at h'; exact h'.elim
    | true =>
      rw [hok] at h'
      obtain ⟨I, μ, h0, hr⟩ := getsK_out (dfs := dfs) _ h'
      refine ⟨I, μ, h0, fun dv vs w' hl hI => ?_⟩
      have h1 := hr dv vs w' hl hI
      obtain ⟨fr1, e1, h2⟩ := putDK_eq dv _ _ _ h1
      obtain ⟨fr2, e2, h3⟩ := putVK_eq vs _ _ _ _ h2
      dsimp only
      rw [e1, e2]
      refine ih _ _ _ _ (fun e fr' w'' he => ?_) h3
      cases e with
      | normal => exact getsK_out (dfs := dfs) _ he
      | _ => exact hQ _ _ _ he

theorem resY_out {Q : Value → World → Prop} {fr : List Sl} {w : World} : ∀ (rs : List ResultVar) (acc : List Value), resY (std P) Q fr w rs acc → resV P Q (actOf dfs fr) w rs acc
  | [], acc, h => h
  | .tmp t :: rs, acc, h => by
    unfold resY at h
    unfold resV
    exact resY_out rs _ (evK_out (dfs := dfs) (x := .tmp t) h)
  | .cell t ty :: rs, acc, h => by
    unfold resY at h
    unfold resV
    obtain ⟨u, hu, hk⟩ := evK_out (dfs := dfs) (x := .tmp t) h
    exact ⟨u, hu, resY_out rs _ hk⟩

theorem calls_of_funY {f : FuncId} {fn : Func} {args : List Value} {w : World} {Q : Value → World → Prop} {nb : Nat} {js : List Nat} (hm : P.follows .mixedOrders = true) (hf : P.funcs[f]? = some fn)
    (h : FunY P (std P) nb js fn args w Q) : CallsR P f args.toArray w Q := by
  refine calls_of_fun (nb := nb) hm hf ?_
  unfold FunY at h
  unfold FunX
  cases hb : fn.body with
  | none => rw [hb] at h; exact h.elim
  | some c =>
    rw [hb] at h
    simp only [repK_eq, argK_eq] at h
    have := Y_out (dfs := []) c _ (retX P fn Q) _ w (fun e fr' w' he => ?_) h
    · have ha : actOf [] (args.map .val ++ List.replicate (fn.ntmps - args.length) (.val undef)) = { tmps := args.toArray ++ Array.replicate (fn.ntmps - args.toArray.size) undef, defers := [] } := by
        have hm : args.map (Sl.v ∘ Sl.val) = args := by
          rw [show Sl.v ∘ Sl.val = id from rfl, List.map_id]
        simp [actOf, hm, Sl.v]
      rw [ha] at this
      exact this
    · cases e with
      | ret => exact resY_out _ _ he
      | normal => exact resY_out _ _ he
      | _ => exact he.elim

end
end Go.Proofs.YtakifgecgmdjcaaGreat.Xf
