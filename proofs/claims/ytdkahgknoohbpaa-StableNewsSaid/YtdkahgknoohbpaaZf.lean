/- The reading of a function's code, within a round of a range over a function ('wpIn' under the wide fence, whatever its round). -/
import Derived.Test.YtdkahgknoohbpaaXf
import Derived.OrdersIn
import Derived.TacticsIn
import Derived.ControlIn
import Derived.RangeFuncRecord
import Derived.RangeFuncLeaves
namespace Go.Proofs.Ytdkahgknoohbpaa.Xf
open Go
set_option linter.unusedVariables false
set_option linter.unusedSimpArgs false

def wideR (ro : Option Nat) : Fence := { Fence.wide with round := ro }
theorem wideR_none : wideR none = Fence.wide := rfl
theorem wideR_some (l : Nat) : wideR (some l) = Fence.wide.inRound l := rfl
section
variable {P : Program} {ro : Option Nat} {n : Nat}
theorem callsIn_ro {f : FuncId} {args : Array Value} {w : World} {R : Ending → World → Prop} : CallsIn (wideR ro) n P f args w R ↔ Calls P f args w R :=
  (show CallsIn Fence.wide n P f args w R ↔ Calls P f args w R from callsIn_wide)
def noDef (o : Oper) : Bool := match o.op with | .defer _ => false | _ => true
theorem noDef_spec {o : Oper} (h : noDef o = true) : ∀ c, o.op ≠ .defer c := by
  intro c hc
  unfold noDef at h
  rw [hc] at h
  cases h

theorem StepX_uponIn {o : Oper} {a : Act} {K : Value → World → Prop} {K' : Act → World → Prop} {Q' : Exit → Act → World → Prop} {w : World} (hd : ∀ c, o.op ≠ .defer c)
    (h : StepX P (semX a o) w K) (hk : ∀ v w', K v w' → K' (a.put o.dst v) w') : o.wpIn (wideR ro) n P a w K' Q' := by
  refine ⟨fun _ _ => trivial, ?_⟩
  rw [Oper.semAt_eq _ _ _ hd]
  rw [semX_eq] at h
  unfold StepX at h
  generalize (execOp a.eval o).run P w = r at *
  split at h
  · exact hk _ _ h
  · exact hk _ _ h
  · simp only [Oper.uponIn]
    refine ⟨fun h => (by cases h), callsIn_ro.2 (Calls.mono h fun e w'' ⟨v, he, hv⟩ => ?_)⟩
    subst he
    exact hk _ _ hv
  · exact h.elim

theorem opX_wpIn {o : Oper} {a : Act} {w : World} {K : Value → World → Prop} {K' : Act → World → Prop} {Q' : Exit → Act → World → Prop} (hd : ∀ c, o.op ≠ .defer c)
    (h : opX P o a w K) (hk : ∀ v w', K v w' → K' (a.put o.dst v) w') : o.wpIn (wideR ro) n P a w K' Q' := by
  unfold opX at h
  split at h
  · rename_i x hx
    refine ⟨fun _ _ => trivial, ?_⟩
    rw [Oper.semAt_eq _ _ _ hd]
    have : (execOp a.eval o).run P w = .ok (.value (a.eval x)) w := by simp only [execOp, hx]; rfl
    rw [this]
    exact hk _ _ h
  · rename_i x hx
    refine ⟨fun _ _ => trivial, ?_⟩
    rw [Oper.semAt_eq _ _ _ hd]
    have : (execOp a.eval o).run P w = .ok (.value (a.eval x)) w := by simp only [execOp, hx]; rfl
    rw [this]
    exact hk _ _ h
  · rename_i f args ats ho
    split at h
    · rename_i hc
      have h2 : (args.toList.map a.eval).toArray = args.map a.eval := by rw [← Array.toList_map]
      have he : (execOp a.eval o).run P w = .ok (.enter f (args.toList.map a.eval).toArray) w := by
        rw [h2]
        have h3 : execOp a.eval o = callFunc f (#[] ++ args.map a.eval ++ #[]) := by
          simp only [execOp, ho]; rfl
        rw [h3, Array.empty_append, Array.append_empty]
        exact callable_run hc _ _
      refine ⟨fun _ _ => trivial, ?_⟩
      rw [Oper.semAt_eq _ _ _ hd]
      rw [he]
      simp only [Oper.uponIn]
      refine ⟨fun h => (by cases h), callsIn_ro.2 (Calls.mono h fun e w'' ⟨v, he, hv⟩ => ?_)⟩
      subst he
      exact hk _ _ hv
    · exact h.elim
  · exact StepX_uponIn hd h hk

theorem listX_wpIn {ops : Array Oper} {Q : Act → World → Prop} {Q' : Exit → Act → World → Prop} (hQ : ∀ a w, Q a w → Q' .normal a w) :
    ∀ (l : List Oper) (i : Nat) (a : Act) (w : World), (∀ o ∈ l, noDef o = true) → listX P ops Q i l a w → wpListIn (wideR ro) n P ops Q' l a w
  | [], _, a, w, _, h => hQ a w h
  | o :: rest, i, a, w, hd, h => by
    unfold listX at h
    unfold wpListIn
    have hd' := fun o ho => hd o (.tail _ ho)
    cases hw : Region.wanted o (yielded ops a.tmps) with
    | false =>
      rw [hw] at h
      simp only [Bool.false_eq_true, if_false]
      exact ⟨fun _ _ => trivial, listX_wpIn hQ rest _ _ _ hd' h⟩
    | true =>
      rw [hw] at h
      simp only [if_true]
      exact opX_wpIn (noDef_spec (hd o (.head _))) h fun v w' hv => listX_wpIn hQ rest _ _ _ hd' (after_out hv)

theorem YieldsS.wpOpIn {ops : Array Oper} {S : World → Prop} {Q : Exit → Act → World → Prop} {i : Nat} {o : Oper} {v : Value} {a : Act} (hi : ops[i]? = some o) (hd : ∀ c, o.op ≠ .defer c) (hy : YieldsS P ops S o v a)
    {K : Act → World → Prop} {w : World} (hS : S w) (h : K (a.put o.dst v) w) : Go.wpOpIn (wideR ro) n P ops Q i K a w := by
  unfold Go.wpOpIn
  simp only [hi]
  rcases hy with ⟨hw, hv⟩ | ⟨hw, rfl⟩
  · simp only [hw, if_true]
    refine ⟨fun _ _ => trivial, ?_⟩
    rw [Oper.semAt_eq _ _ _ hd, hv w hS]
    exact h
  · simp only [hw, Bool.false_eq_true, if_false]; exact ⟨fun _ _ => trivial, h⟩

theorem wpOpIn_putS {ops : Array Oper} {S : World → Prop} {Q : Act → World → Prop} {j : Nat} {oi oj : Oper} {v : Value} (hj : ops[j]? = some oj) (hap : oi.apart ops oj = true) (hdj : ∀ c, oj.op ≠ .defer c)
    (hsi : ∀ cs b, oi.op ≠ .select cs b) (hsj : ∀ cs b, oj.op ≠ .select cs b) {K : Act → World → Prop} {a : Act} {w : World}
    (hy : YieldsS P ops S oi v a) (h : wpOpIn (wideR ro) n P ops (QN Q) j K (a.put oi.dst v) w) :
    wpOpIn (wideR ro) n P ops (QN Q) j (fun a' w' => YieldsS P ops S oi v a' ∧ K (a'.put oi.dst v) w') a w := by
  obtain ⟨h1, h2, h3⟩ := Oper.apart_spec hap
  have keep : ∀ (a : Act), YieldsS P ops S oi v a → ∀ u, YieldsS P ops S oi v (a.put oj.dst u) := fun a hy u =>
    hy.of_same (execOp_put oi hsi a oj.dst u h3) (wanted_put oi a oj.dst u h3)
  have keepD : ∀ d, YieldsS P ops S oi v { a with defers := d :: a.defers } := fun d => hy.of_same rfl rfl
  unfold wpOpIn at *
  simp only [hj] at *
  rw [wanted_put oj a oi.dst v h1] at h
  split
  · rename_i hw
    simp only [hw, if_true] at h
    refine ⟨fun _ _ => trivial, ?_⟩
    have h := h.2
    rw [Oper.semAt_eq _ _ _ hdj] at h ⊢
    rw [execOp_put oj hsj a oi.dst v h1] at h
    generalize (execOp a.eval oj).run P w = r at *
    cases r with
    | ok x w' =>
      cases x <;> simp only [Oper.uponIn] at h ⊢
      case value u => exact ⟨keep a hy u, by rw [← Act.put_comm a v u h2]; exact h⟩
      case skip => exact ⟨keep a hy _, by rw [← Act.put_comm a v undef h2]; exact h⟩
      case defer d =>
        refine ⟨keep _ (keepD d) _, ?_⟩
        rw [← Act.put_comm _ v undef h2, ← Act.put_defers]
        exact h
      case enter f args =>
        refine ⟨h.1, CallsIn.mono h.2 fun e w'' he => ?_⟩
        cases e with
        | returned u => exact ⟨keep a hy u, by rw [← Act.put_comm a v u h2]; exact he⟩
        | panicked c => exact he.elim
        | outgrown => exact he
      case row row args => exact ⟨h.1, RowsIn.mono h.2 fun u w'' he => ⟨keep a hy u, by rw [← Act.put_comm a v u h2]; exact he⟩⟩
      case round l f tmps assign body =>
        refine ⟨h.1, RoundIn.mono h.2 fun e w'' he => ?_⟩
        cases e with
        | returned u => exact ⟨keep a hy u, by rw [← Act.put_comm a v u h2]; exact he⟩
        | panicked c => exact he.elim
        | outgrown => exact he
    | halt x w' =>
      cases x <;> simp only [Oper.uponIn] at h ⊢
      case panic u => exact h.elim
  · rename_i hw
    simp only [hw] at h
    exact ⟨fun _ _ => trivial, keep a hy _, by rw [← Act.put_comm a v undef h2]; exact h.2⟩

def wpTI (ro : Option Nat) (n : Nat) (P : Program) (ops : Array Oper) (Q : Act → World → Prop) : Nat → Array Bool → List Nat → (World → Prop) → Act → World → Prop
  | 0, listed, _, _, a, w => Region.ready .any ops listed = [] ∧ Q a w
  | fuel + 1, listed, took, S, a, w =>
    (Region.ready .any ops listed = [] → Q a w) ∧
    ∀ i ∈ Region.ready .any ops listed, wpOpIn (wideR ro) n P ops (QN Q) i (fun a' w' => ∃ S' : World → Prop, (lastB ops took i = false → ∀ w, S' w → S w) ∧ S' w' ∧ wpTI ro n P ops Q fuel (listed.setIfInBounds i true) took S' a' w') a w

theorem wpAnyIn_of_T {ops : Array Oper} {Q : Act → World → Prop} : ∀ (fuel : Nat) (listed : Array Bool) (took : List Nat) (S : World → Prop) (a : Act) (w : World), wpTI ro n P ops Q fuel listed took S a w → wpAnyIn (wideR ro) n P .any ops (QN Q) fuel listed a w
  | 0, _, _, _, _, _, h => h
  | fuel + 1, _, _, _, _, _, h => ⟨h.1, fun i hi => wpOpIn_mono (fun _ _ ⟨_, _, _, h'⟩ => wpAnyIn_of_T fuel _ _ _ _ _ h') (h.2 i hi)⟩

theorem wpTI_first {ops : Array Oper} {Q : Act → World → Prop} {i : Nat} {oi : Oper} {v : Value} (hi : ops[i]? = some oi) (hsel : ∀ (j : Nat) (o : Oper) cs b, ops[j]? = some o → o.op ≠ .select cs b) (hnd : ∀ (j : Nat) (o : Oper) c, ops[j]? = some o → o.op ≠ .defer c) :
    ∀ (fuel : Nat) (listed : Array Bool) (took : List Nat) (S : World → Prop) (a : Act) (w : World),
      (∀ j oj, ops[j]? = some oj → j ≠ i → listed.getD j true = false → (∀ e ∈ oj.after, Region.binds .any e = true → e.on ≠ i) → oi.apart ops oj = true) →
      Closed ops listed → i ∈ Region.ready .any ops listed → YieldsS P ops S oi v a → S w →
      wpTI ro n P ops Q fuel (listed.setIfInBounds i true) (i :: took) S (a.put oi.dst v) w → wpTI ro n P ops Q (fuel + 1) listed took S a w := by
  have less : ∀ (fuel : Nat) (listed : Array Bool) (took : List Nat) (S : World → Prop) (a : Act) (w : World), wpTI ro n P ops Q fuel listed (i :: took) S a w → wpTI ro n P ops Q fuel listed took S a w := by
    intro fuel
    induction fuel with
    | zero => intro _ _ _ _ _ h; exact h
    | succ fuel ih =>
      intro listed took S a w h
      refine ⟨h.1, fun j hj => wpOpIn_mono (fun a' w' ⟨S', h1, h2, h3⟩ => ⟨S', fun hl => h1 ?_, h2, ih _ _ _ _ _ h3⟩) (h.2 j hj)⟩
      unfold lastB at hl ⊢
      rw [List.all_cons, hl, Bool.and_false]
  intro fuel
  induction fuel with
  | zero =>
    intro listed took S a w _ hc hr hy hS H
    refine ⟨fun h => (by rw [h] at hr; cases hr), fun j hj => ?_⟩
    by_cases hji : j = i
    · subst hji; exact hy.wpOpIn hi (hnd _ _ · hi) hS ⟨S, fun _ _ h => h, hS, H⟩
    · have := ready_mono hj hji
      rw [H.1] at this
      cases this
  | succ fuel ih =>
    intro listed took S a w hfree hc hr hy hS H
    refine ⟨fun h => (by rw [h] at hr; cases hr), fun j hj => ?_⟩
    by_cases hji : j = i
    · subst hji; exact hy.wpOpIn hi (hnd _ _ · hi) hS ⟨S, fun _ _ h => h, hS, less _ _ _ _ _ _ H⟩
    · have h1 := H.2 j (ready_mono hj hji)
      obtain ⟨hjun, oj, hoj, hall⟩ := mem_ready.1 hj
      have hnl : listed.getD i false = false := by
        have h0 := (mem_ready.1 hr).1
        rcases Nat.lt_or_ge i listed.size with h' | h'
        · simp [h'] at h0 ⊢; exact h0
        · simp [Array.getElem?_eq_none h'] at h0
      have hnot : ∀ e ∈ oj.after, Region.binds .any e = true → e.on ≠ i := fun e he hb heq => by
        have h1 := hall e he hb
        rw [heq, hnl] at h1
        cases h1
      have hlast : lastB ops (i :: took) j = false := by
        unfold lastB
        rw [List.all_cons]
        cases hrb : reachB ops i ops.size j with
        | false => rfl
        | true =>
          have := ready_reach hc hj _ hrb
          rw [hnl] at this
          cases this
      have h2 := wpOpIn_putS hoj (hfree j oj hoj hji hjun hnot) (hnd _ _ · hoj) (fun cs b => hsel i oi cs b hi) (fun cs b => hsel j oj cs b hoj) hy h1
      have hfree' : ∀ k ok, ops[k]? = some ok → k ≠ i → (listed.setIfInBounds j true).getD k true = false →
          (∀ e ∈ ok.after, Region.binds .any e = true → e.on ≠ i) → oi.apart ops ok = true := fun k ok hk hki hun hno => by
        refine hfree k ok hk hki ?_ hno
        by_cases hjk : j = k
        · subst hjk; exact hjun
        · rw [getD_set_ne true hjk] at hun; exact hun
      refine wpOpIn_mono (fun a' w' h3 => ?_) h2
      obtain ⟨hy', S', hS1, hS2, h4⟩ := h3
      have hsub := hS1 hlast
      refine ⟨S', fun _ => hsub, hS2, ih (listed.setIfInBounds j true) took S' a' w' hfree' (hc.set hj) (ready_mono hr (Ne.symm hji)) (hy'.weaken hsub) hS2 ?_⟩
      rw [Array.setIfInBounds_comm _ _ hji]
      exact h4

theorem treeX_TI {ops : Array Oper} {Q : Act → World → Prop} (hsel : ∀ (j : Nat) (o : Oper) cs b, ops[j]? = some o → o.op ≠ .select cs b) (hnd : ∀ (j : Nat) (o : Oper) c, ops[j]? = some o → o.op ≠ .defer c) :
    ∀ (fuel : Nat) (listed : Array Bool) (took : List Nat) (S : World → Prop) (a : Act) (w : World), Closed ops listed → S w → treeX P ops Q fuel listed took S a w → wpTI ro n P ops Q fuel listed took S a w
  | 0, listed, took, S, a, w, _, _, h => by
    unfold treeX at h
    rw [readyL_eq] at h
    cases hr : Region.ready .any ops listed with
    | nil => rw [hr] at h; exact ⟨hr, h⟩
    | cons r rs => rw [hr] at h; exact h.elim
  | fuel + 1, listed, took, S, a, w, hc, hS, h => by
    unfold treeX at h
    rw [readyL_eq] at h
    cases hr : Region.ready .any ops listed with
    | nil =>
      rw [hr] at h
      exact ⟨fun _ => h, fun i hi => (by rw [hr] at hi; cases hi)⟩
    | cons r rs =>
      rw [hr] at h
      simp only at h
      cases hf : (r :: rs).find? (flAt P ops listed a) with
      | some i =>
        rw [hf] at h
        have him : i ∈ Region.ready .any ops listed := by rw [hr]; exact List.mem_of_find?_eq_some hf
        obtain ⟨o, v, ho, hy, hk⟩ := flX_out h
        have hfa := List.find?_some hf
        unfold flAt at hfa
        rw [ho] at hfa
        simp only [Bool.and_eq_true, freeL_eq] at hfa
        exact wpTI_first ho hsel hnd fuel listed took S a w (Region.free_spec ho hfa.2) hc him hy hS (treeX_TI hsel hnd fuel _ _ _ _ _ (hc.set him) hS hk)
      | none =>
        rw [hf] at h
        refine ⟨fun h0 => (by rw [hr] at h0; cases h0), fun i hi => ?_⟩
        have hi' := hi
        rw [hr] at hi'
        have hch := allX_out h i hi'
        unfold chX at hch
        cases ho : ops[i]? with
        | none => rw [ho] at hch; exact hch.elim
        | some o =>
          rw [ho] at hch
          simp only at hch
          unfold wpOpIn
          simp only [ho]
          cases hw : Region.wanted o (yielded ops a.tmps) with
          | true =>
            rw [hw] at hch
            simp only [if_true]
            refine opX_wpIn (hnd _ _ · ho) hch fun v w' hv => ?_
            cases hl : lastB ops took i with
            | true =>
              rw [hl] at hv
              obtain ⟨S', h1, h2⟩ := hv
              exact ⟨S', fun h0 => (by cases h0), h1, treeX_TI hsel hnd fuel _ _ _ _ _ (hc.set hi) h1 (after_out h2)⟩
            | false =>
              rw [hl] at hv
              obtain ⟨S', h0, h1, h2⟩ := hv
              exact ⟨S', fun _ => h0, h1, treeX_TI hsel hnd fuel _ _ _ _ _ (hc.set hi) h1 (after_out h2)⟩
          | false =>
            rw [hw] at hch
            simp only [Bool.false_eq_true, if_false]
            exact ⟨fun _ _ => trivial, S, fun _ _ h => h, hS, treeX_TI hsel hnd fuel _ _ _ _ _ (hc.set hi) hS hch⟩

theorem DrawX_wpIn {ops : Array Oper} {Q : Act → World → Prop} {Q' : Exit → Act → World → Prop} {id : Nat} {a : Act} {w : World} (hm : P.follows .mixedOrders = true) (hnd : ∀ o ∈ ops.toList, noDef o = true) (hQ : ∀ a w, Q a w → Q' .normal a w) (h : DrawX P ops Q a w) :
    (Code.region id ops true).wpIn (wideR ro) n P Q' a w := by
  unfold DrawX at h
  cases hn : noSelectL ops with
  | false => rw [hn] at h; exact h.elim
  | true =>
    rw [hn] at h
    obtain ⟨S, h1, h2⟩ := h
    have hc : Closed ops (Array.replicate ops.size false) := by
      intro j oj hj hl
      have hlt : j < ops.size := (Array.getElem?_eq_some_iff.1 hj).1
      simp [hlt] at hl
    have h3 := wpAnyIn_of_T (ro := ro) (n := n) _ _ _ _ _ _ (treeX_TI (Region.noSelect_spec (noSelectL_eq ops ▸ hn)) (fun j o c ho => noDef_spec (hnd o (Array.mem_toList_iff.2 (Array.mem_of_getElem? ho))) c) _ _ _ _ _ _ hc h1 h2)
    refine Code.wpIn_mono (fun e a w he => ?_) (wpIn_region_any (Q := QN Q) hm h3)
    cases e with
    | normal => exact hQ _ _ he
    | _ => exact he.elim

theorem region_wpIn {id : Nat} {ops : Array Oper} {draw : Bool} {nb : Nat} {Q : Exit → Act → World → Prop} {a : Act} {w : World} (hm : P.follows .mixedOrders = true) (hnd : ops.toList.all noDef = true) (h : X P nb (.region id ops draw) Q a w) :
    (Code.region id ops draw).wpIn (wideR ro) n P Q a w := by
  have hnd := List.all_eq_true.1 hnd
  cases draw with
  | false => exact wpIn_region_list (listX_wpIn (fun a w hq => hq) _ _ _ _ hnd h)
  | true => exact DrawX_wpIn hm hnd (fun a w hq => hq) h

def noDefC : Code → Bool
  | .region _ ops _ => ops.toList.all noDef
  | .seq a b => noDefC a && noDefC b
  | .cond _ a b => noDefC a && noDefC b
  | .block _ c => noDefC c
  | .loop c => noDefC c
  | .scope _ => false
  | .rangeFunc _ _ _ _ => false
  | _ => true

theorem X_wpIn (nb : Nat) (hm : P.follows .mixedOrders = true) : ∀ (c : Code) (Q : Exit → Act → World → Prop) (a : Act) (w : World), noDefC c = true → X P nb c Q a w → c.wpIn (wideR ro) n P (fun e a' w' => Q e a' w' ∧ Agree (dsts c) a a') a w := by
  intro c
  induction c with
  | skip => intro Q a w _ h; exact wpIn_skip ⟨h, Agree.refl _ _⟩
  | label l => intro Q a w _ h; exact wpIn_label ⟨h, Agree.refl _ _⟩
  | ret => intro Q a w _ h; exact wpIn_ret ⟨h, Agree.refl _ _⟩
  | exit id => intro Q a w _ h; exact wpIn_exit ⟨h, Agree.refl _ _⟩
  | goto l => intro Q a w _ h; exact h.elim
  | refuse s => intro Q a w _ h; exact h.elim
  | scope c ih => intro Q a w hd h; cases hd
  | rangeFunc f ps x y _ _ => intro Q a w _ h; exact h.elim
  | region id ops draw =>
    intro Q a w hd h
    have hd' : ops.toList.all noDef = true := hd
    cases draw with
    | false =>
      have h' : listX P ops (Q .normal) 0 ops.toList a w := h
      have h2 := listX_agree (ds := ops.toList.filterMap (·.dst)) (a0 := a) ops.toList 0 a w (fun o ho d hd => List.mem_filterMap.2 ⟨o, ho, hd⟩) (Agree.refl _ _) h'
      exact wpIn_region_list (listX_wpIn (fun a w hq => hq) _ _ _ _ (List.all_eq_true.1 hd') h2)
    | true =>
      have h' : DrawX P ops (Q .normal) a w := h
      exact DrawX_wpIn hm (List.all_eq_true.1 hd') (fun a w hq => hq) (DrawX_agree h')
  | seq c d ihc ihd =>
    intro Q a w hd h
    have hd' : (noDefC c && noDefC d) = true := hd
    rw [Bool.and_eq_true] at hd'
    refine wpIn_seq (Code.wpIn_mono (fun e a' w' he => ?_) (ihc _ a w hd'.1 h))
    cases e with
    | normal =>
      refine Code.wpIn_mono (fun e a'' w'' he' => ?_) (ihd _ a' w' hd'.2 he.1)
      exact ⟨he'.1, (he.2.mono fun d hd => List.mem_append_left _ hd).trans (he'.2.mono fun d hd => List.mem_append_right _ hd)⟩
    | _ => exact ⟨he.1, he.2.mono fun d hd => List.mem_append_left _ hd⟩
  | cond c t e iht ihe =>
    intro Q a w hd h
    have hd' : (noDefC t && noDefC e) = true := hd
    rw [Bool.and_eq_true] at hd'
    obtain ⟨⟨b, hb⟩, h1, h2⟩ := h
    cases b with
    | true => exact wpIn_cond_true hb (Code.wpIn_mono (fun e a' w' he => ⟨he.1, he.2.mono fun d hd => List.mem_append_left _ hd⟩) (iht _ a w hd'.1 (h1 hb)))
    | false => exact wpIn_cond_false hb (Code.wpIn_mono (fun e a' w' he => ⟨he.1, he.2.mono fun d hd => List.mem_append_right _ hd⟩) (ihe _ a w hd'.2 (h2 hb)))
  | block id c ih =>
    intro Q a w hd h
    refine wpIn_block (Code.wpIn_mono (fun e a' w' he => ?_) (ih _ a w hd h))
    cases e with
    | exit id' =>
      simp only [Exit.inBlock] at he ⊢
      split
      · rename_i hid; rw [if_pos hid] at he; exact he
      · rename_i hid; rw [if_neg hid] at he; exact he
    | _ => exact he
  | loop c ih =>
    intro Q a w hd h
    have h' : LoopX (uniq (dsts c)) (live nb c (uniq (dsts c))) a w fun a' w' again => X P nb c (Exit.then again Q) a' w' := h
    unfold LoopX at h'
    generalize hls : live nb c (uniq (dsts c)) = ls at *
    generalize hds : uniq (dsts c) = ds at *
    have hmem : ∀ d, d ∈ ds ↔ d ∈ dsts c := fun d => hds ▸ mem_uniq (dsts c)
    have hsub : ∀ d ∈ ls, d ∈ ds := fun d hd => by rw [← hls] at hd; exact (List.mem_filter.1 hd).1
    cases hok : loopOk ds a.tmps.size with
    | false => rw [hok] at h'; exact h'.elim
    | true =>
      rw [hok] at h'
      simp only [loopOk, Bool.and_eq_true, List.all_eq_true, Nat.blt_eq] at hok
      obtain ⟨hb, hn⟩ := hok
      have hn := nodupB_spec ds hn
      have hnl : ls.Nodup := by rw [← hls]; exact hn.filter _
      obtain ⟨I, μ, h0, hr⟩ := h'
      refine wpIn_loop (fun a' w' => Agree ds a a' ∧ I (ls.map (getA a')) w') (fun a' w' => μ (ls.map (getA a')) w') ⟨Agree.refl _ _, h0⟩ ?_
      rintro a1 w1 ⟨hag1, hI⟩
      have hback := put_back hag1 hnl hb hsub
      have h1 := hr (getA a1) (ls.map (getA a1)) w1 (by simp) hI
      dsimp only at h1
      rw [← hback] at h1
      refine Code.wpIn_mono (fun e a2 w2 he => ?_) (ih _ _ _ hd h1)
      have hag : Agree ds a a2 := hag1.trans (he.2.mono fun d hd => (hmem d).2 hd)
      cases e with
      | normal => exact ⟨⟨hag, he.1.1⟩, he.1.2⟩
      | _ => exact ⟨he.1, hag.mono fun d hd => (hmem d).1 hd⟩

/-- a code's reading over slots suffices, within a round too, whatever calls are deferred -/
theorem Y_wpIn {dfs : List Deferred} {nb : Nat} {js : List Nat} (hm : P.follows .mixedOrders = true) {c : Code} {Q : Exit → List Sl → World → Prop} {Q' : Exit → Act → World → Prop} {fr : List Sl} {w : World} (hd : noDefC c = true) (hQ : ∀ e fr w, Q e fr w → Q' e (actOf dfs fr) w) (h : Y P (std P) nb js c Q fr w) :
    c.wpIn (wideR ro) n P Q' (actOf dfs fr) w :=
  Code.wpIn_mono (fun e a w he => he.1) (X_wpIn nb hm c Q' (actOf dfs fr) w hd (Y_out c Q Q' fr w hQ h))
end
end Go.Proofs.Ytdkahgknoohbpaa.Xf
