/- Locks: leave. -/
import Derived.Test.YtakifgecgmdjcaaLkA
import Derived.Laws.CopyRow
namespace Go.Proofs.Ytakifgecgmdjcaa
open Go Xf Go.RowKit
set_option linter.unusedVariables false
set_option linter.unusedSimpArgs false
set_option maxRecDepth 100000

theorem step_enter {P : Program} {s : Sem Next} {f : FuncId} {args : Array Value} {w w' : World} {K : Value → World → Prop} (h : s.run P w = .ok (.enter f args) w') : (std P).step s w K = CallsR P f args w' K := by
  show StepX P s w K = _
  unfold StepX
  rw [h]
def sameV (b : Value) : Value := .func (.func 54) #[] #[b]
theorem mk_same (b : Value) (w : World) : (sMakeFunc (.func 54) [] [b]).run Try.prog w = .ok (.value (sameV b)) w := by kernel_rfl
theorem call_same (b x : Value) (w : World) : (sCallV (sameV b) [x]).run Try.prog w = .ok (.enter 54 #[x, b]) w := by kernel_rfl
theorem same_spec {w : World} {g : Nat} {txn : Int} (hc : w.cell? ⟨g, 0, none⟩ = some (.int .i64 txn)) (x : Int) : CallsR Try.prog 54 #[.int .i64 x, .pointer (some ⟨g, 0, none⟩)] w fun u w' => u = .bool (decide (x = txn)) ∧ w' = w := by
  apply lock_name_leave_1_sound
  unfold lock_name_leave_1_x
  simp (disch := first | assumption | omega) only [PX, LX]
  exact ⟨trivial, trivial⟩
theorem st_same_call {w : World} {g : Nat} {txn x : Int} {K : Value → World → Prop} (hc : w.cell? ⟨g, 0, none⟩ = some (.int .i64 txn)) (hk : K (.bool (decide (x = txn))) w) : (std Try.prog).step (sCallV (sameV (.pointer (some ⟨g, 0, none⟩))) [.int .i64 x]) w K := by
  rw [step_enter (call_same _ _ _)]
  exact CallsR.mono (same_spec hc x) fun u w' ⟨h1, h2⟩ => by subst h1 h2; exact hk
/-- where one stands first; -1 -/
def idxN (l : List Int) (x : Int) : Int := match l.findIdx? (fun y => decide (y = x)) with | some i => i | none => -1
theorem IndexFunc_spec {w : World} {v : Value} {l : List Int} {g : Nat} {txn : Int} (hr : Rd w 1 v l.length (intsV .i64 l)) (hl : l.length ≤ 1000000) (hc : w.cell? ⟨g, 0, none⟩ = some (.int .i64 txn)) :
    CallsR Try.prog 78 #[v, sameV (.pointer (some ⟨g, 0, none⟩))] w fun u w' => u = .int .i64 (idxN l txn) ∧ w' = w := by
  obtain ⟨A, c, rfl, hcc, hlen, hx⟩ := hr
  apply slices_IndexFunc_int_int_sound
  unfold slices_IndexFunc_int_int_x slices_IndexFunc_int_int_k1
  simp only [PX]
  refine st_loop (fun vs w' => ∃ i : Nat, i ≤ l.length ∧ vs.getD 2 undef = .int .i64 i ∧ w' = w ∧ ∀ y ∈ l.take i, y ≠ txn) (fun vs _ => l.length - (intOf (vs.getD 2 undef)).toNat) ⟨0, by omega, rfl, rfl, by simp⟩ ?_
  rintro dv vs w1 - ⟨i, hi, e2, rfl, hno⟩
  simp (disch := omega) only [e2, PX, BX]
  refine ⟨fun hlt => ?_, fun hge => ?_⟩
  · have hi' : i < l.length := by omega
    obtain ⟨a, rfl, ha⟩ := hx i (.int .i64 l[i]) (by simp [intsV, hi'])
    simp (disch := first | assumption | omega) only [PX, LX, Nat.mul_one]
    refine st_same_call hc ?_
    simp (disch := omega) only [PX, BX, w64]
    refine ⟨fun he => ⟨?_, trivial⟩, fun hne => ⟨⟨i + 1, by omega, rfl, trivial, ?_⟩, ?_⟩⟩
    · unfold idxN
      have : l.findIdx? (fun y => decide (y = txn)) = some i := by
        rw [List.findIdx?_eq_some_iff_getElem]
        refine ⟨hi', by simpa using he, fun j hj => ?_⟩
        have := hno l[j] (List.mem_take_iff_getElem.2 ⟨j, by omega, rfl⟩)
        simpa using this
      rw [this]
    · intro y hy
      rw [List.take_succ_eq_append_getElem hi'] at hy
      rcases List.mem_append.1 hy with hy | hy
      · exact hno y hy
      · rw [List.mem_singleton] at hy; subst hy; exact hne
    · simp only [List.getD_cons_succ, List.getD_cons_zero, intOf]; omega
  · obtain rfl : i = l.length := by omega
    rw [List.take_length] at hno
    refine ⟨?_, trivial⟩
    unfold idxN
    have : l.findIdx? (fun y => decide (y = txn)) = none := by
      rw [List.findIdx?_eq_none_iff]
      intro y hy
      simpa using hno y hy
    rw [this]
theorem zeros_eq (m : Nat) : (Builtin.zeroCells (Value.int .i64 0).cells m).toList = List.replicate m (Value.int .i64 0) := by
  apply List.ext_getElem?
  intro i
  rw [show (Value.int .i64 0).cells = #[Value.int .i64 0] from rfl]
  simp only [Builtin.zeroCells, Array.toList_map, List.getElem?_map, List.getElem?_replicate]
  by_cases hi : i < m
  · simp [hi, Nat.mod_one]
  · simp [hi]
theorem st_clear {w W : World} {K : Value → World → Prop} {ty : TypeId} {cs : List Bool} {te : TypeId} {g off m c : Nat} {cur : Array Value} {h : List (Nat × Obj)} {ks : List Nat} (hU : Upd W w ks) (hO : Owns w h) (i : Nat) (hi : h[i]? = some (g, .cells cur te (0, 0))) (hfit : off + m ≤ cur.size) (h0 : 0 < m) (hg : g ∈ ks ∨ W.heap.size ≤ g)
    (hk : ∀ w', Upd W w' ks → Owns w' (h.set i (g, .cells (cur.toList.take off ++ List.replicate m (Value.int .i64 0) ++ cur.toList.drop (off + m)).toArray te (0, 0))) → K (.tuple #[]) w') :
    (std Try.prog).step (sBuiltin .clear #[42] ty cs [.slice (some ⟨g, off, none⟩) m c]) w K := by
  obtain ⟨m, rfl⟩ : ∃ m', m = m' + 1 := ⟨m - 1, by omega⟩
  have hb := hO.at_ i hi
  have hst := run_storeCells_at Try.prog g off te (List.replicate (m + 1) (Value.int .i64 0)) 0 cur w hb (by simpa using hfit) (fun v hv => by rw [List.eq_of_mem_replicate hv]; rfl)
  have h1 : (Builtin.clear_ #[42] ty #[.slice (some ⟨g, off, none⟩) (m + 1) c]).run Try.prog w = .ok (.tuple #[]) (w.setRow g (cur.toList.take off ++ List.replicate (m + 1) (Value.int .i64 0) ++ cur.toList.drop (off + (m + 1))).toArray) := by
    simp only [Builtin.clear_, List.getElem?_toArray, List.getElem?_cons_zero]
    rw [Sem.run_bind, run_underlying' u42]
    simp only [Result.andThen_ok, Sem.run_bind, run_zero ze3]
    rw [zeros_eq, hst]
    simp
  have hrun : (sBuiltin .clear #[42] ty cs [.slice (some ⟨g, off, none⟩) (m + 1) c]).run Try.prog w = .ok (.value (.tuple #[])) (w.setRow g (cur.toList.take off ++ List.replicate (m + 1) (Value.int .i64 0) ++ cur.toList.drop (off + (m + 1))).toArray) := by
    show (do pure (.value (← Builtin.clear_ #[42] ty #[.slice (some ⟨g, off, none⟩) (m + 1) c])) : Sem Next).run Try.prog w = _
    rw [Sem.run_bind, h1]; rfl
  rw [step_run hrun]
  exact hk _ (hU.then_ (Upd.setRow _ _ _) fun y hy => by simp at hy; subst hy; exact hg) (hO.setRow i hi _)
def outN (l : List Int) (x : Int) : List Int := l.filter fun y => !decide (y = x)
theorem DeleteFunc_spec {w W : World} {ks : List Nat} {F ht : List (Nat × Obj)} {v : Value} {l : List Int} {g : Nat} {txn : Int} (hr : RowH 3 1 v l.length (intsV .i64 l) ht) (hl : l.length ≤ 1000000) (hO : Owns w (ht ++ F)) (hU : Upd W w ks) (hh : ∀ p ∈ ht, p.1 ∈ ks ∨ W.heap.size ≤ p.1) (hb : (g, Obj.cells #[.int .i64 txn] 3 (0, 0)) ∈ F) :
    CallsR Try.prog 55 #[v, sameV (.pointer (some ⟨g, 0, none⟩))] w fun u w' => ∃ h', RowH 3 1 u (outN l txn).length (intsV .i64 (outN l txn)) h' ∧ Owns w' (h' ++ F) ∧ Upd W w' ks ∧ ∀ p ∈ h', p.1 ∈ ks ∨ W.heap.size ≤ p.1 := by
  apply slices_DeleteFunc_int_int_sound
  unfold slices_DeleteFunc_int_int_x
  have hbox : ∀ {w' : World} {h' : List (Nat × Obj)}, Owns w' (h' ++ F) → w'.cell? ⟨g, 0, none⟩ = some (.int .i64 txn) := fun ho => (cell_at (ho.2 _ (List.mem_append_right _ hb))).trans rfl
  refine st_call (IndexFunc_spec (hr.rd hO) hl (hbox hO)) ?_
  rintro _ w1 ⟨rfl, rfl⟩
  unfold idxN
  cases hf : l.findIdx? (fun y => decide (y = txn)) with
  | none =>
    simp only [PX, BX]
    refine ⟨fun _ => ?_, fun h => absurd trivial h⟩
    rw [List.findIdx?_eq_none_iff] at hf
    have : outN l txn = l := List.filter_eq_self.2 fun y hy => by have := hf y hy; simpa using this
    rw [this]
    exact ⟨ht, hr, hO, hU, hh⟩
  | some i0 =>
    rw [List.findIdx?_eq_some_iff_getElem] at hf
    obtain ⟨hi0, he0, hlt0⟩ := hf
    simp (disch := omega) only [PX, BX, w64]
    refine ⟨fun h => absurd h (by omega), fun _ => ?_⟩
    obtain ⟨gt, cap, cs0, rfl, rfl, hcap, hmax, hsz0, htk0⟩ : ∃ gt cap cs0, v = .slice (some ⟨gt, 0, none⟩) l.length cap ∧ ht = [(gt, .cells cs0 3 (0, 0))] ∧ l.length ≤ cap ∧ cap ≤ maxLen ∧ cs0.size = cap * 1 ∧ cs0.toList.take (l.length * 1) = intsV .i64 l := by
      rcases hr.2 with ⟨_, h0, _⟩ | ⟨a, b, c, h1, h2, h3, h4, h5, h6⟩
      · omega
      · exact ⟨a, b, c, h1, h2, h3, h4, h5, h6⟩
    rw [Nat.mul_one] at hsz0 htk0
    have hgW := hh _ (List.mem_cons_self ..)
    have hat0 : ∀ k (hk : k < l.length), cs0[k]? = some (.int .i64 l[k]) := fun k hk => by
      have h1 : (cs0.toList.take l.length)[k]? = some (.int .i64 l[k]) := by rw [htk0]; simp [intsV, hk]
      rw [List.getElem?_take, if_pos hk] at h1
      simpa using h1
    have ho0 : outN (l.take i0) txn = l.take i0 := List.filter_eq_self.2 fun y hy => by
      obtain ⟨k, hk, rfl⟩ := List.mem_take_iff_getElem.1 hy
      have := hlt0 k (by omega)
      simpa using this
    have ho1 : outN (l.take (i0 + 1)) txn = l.take i0 := by
      rw [List.take_succ_eq_append_getElem hi0]
      unfold outN at ho0 ⊢
      rw [List.filter_append, ho0]
      have : l[i0] = txn := by simpa using he0
      simp [this]
    refine st_loop (fun vs w' => ∃ (i j : Nat) (cs : Array Value), vs.getD 1 undef = .int .i64 i ∧ vs.getD 2 undef = .int .i64 j ∧ i < j ∧ j ≤ l.length ∧ i = (outN (l.take j) txn).length ∧ cs.size = cap ∧ cs.toList.take i = intsV .i64 (outN (l.take j) txn) ∧ (∀ k (hk : k < l.length), j ≤ k → cs[k]? = some (.int .i64 l[k])) ∧ Owns w' ((gt, .cells cs 3 (0, 0)) :: F) ∧ Upd W w' ks)
      (fun vs _ => l.length - (intOf (vs.getD 2 undef)).toNat) ⟨i0, i0 + 1, cs0, rfl, rfl, by omega, by omega, ?_, hsz0, ?_, fun k hk _ => hat0 k hk, hO, hU⟩ ?_
    · rw [ho1, List.length_take]; omega
    · rw [ho1]
      have := congrArg (List.take i0) htk0
      rw [List.take_take, Nat.min_eq_left (by omega)] at this
      rw [this]; simp [intsV, List.map_take]
    rintro dv vs w2 - ⟨i, j, cs, e1, e2, hij, hjl, hi, hcs, htk, hrest, hO2, hU2⟩
    simp (disch := omega) only [e1, e2, PX, BX]
    refine ⟨fun hlt => ?_, fun hge => ?_⟩
    · have hj' : j < l.length := by omega
      have hcj := hrest j hj' (Nat.le_refl _)
      have hcell : w2.cell? ⟨gt, 0 + j, none⟩ = some (.int .i64 l[j]) := by rw [cell_at (hO2.at_ 0 rfl), Nat.zero_add]; exact hcj
      simp (disch := first | assumption | omega) only [PX, LX, add_mk]
      refine st_same_call (hbox (h' := [_]) hO2) ?_
      simp (disch := omega) only [PX, BX]
      have hsucc : l.take (j + 1) = l.take j ++ [l[j]] := List.take_succ_eq_append_getElem hj'
      refine ⟨fun he => ?_, fun hne => ?_⟩
      · unfold slices_DeleteFunc_int_int_k2
        simp (disch := omega) only [e2, PX, w64]
        have hou : outN (l.take (j + 1)) txn = outN (l.take j) txn := by
          rw [hsucc]; unfold outN; rw [List.filter_append]; simp [he]
        refine ⟨⟨i, j + 1, cs, rfl, rfl, by omega, by omega, by rw [hou]; exact hi, hcs, by rw [hou]; exact htk, fun k hk hjk => hrest k hk (by omega), hO2, hU2⟩, ?_⟩
        simp only [List.getD_cons_succ, List.getD_cons_zero, intOf]; omega
      · have hi' : i < l.length := by omega
        refine st_storeB sz3 rfl hU2 hO2 0 rfl (by rw [hcs]; omega) (.inr (Nat.zero_le _)) hgW ?_
        intro w3 hU3 hO3
        unfold slices_DeleteFunc_int_int_k2
        simp (disch := omega) only [e2, PX, w64]
        have hou : outN (l.take (j + 1)) txn = outN (l.take j) txn ++ [l[j]] := by
          rw [hsucc]; unfold outN; rw [List.filter_append]; simp [hne]
        refine ⟨⟨i + 1, j + 1, cs.setIfInBounds (0 + i) (.int .i64 l[j]), rfl, rfl, by omega, by omega, by rw [hou, List.length_append, List.length_singleton]; omega, by simpa using hcs, ?_, fun k hk hjk => ?_, hO3, hU3⟩, ?_⟩
        · rw [hou]
          have hc2 : i < cs.toList.length := by simp [hcs]; omega
          rw [Nat.zero_add, Array.toList_setIfInBounds, List.take_succ_eq_append_getElem (by simpa using hc2), List.getElem_set_self, List.take_set_of_le (Nat.le_refl _), htk]
          simp [intsV]
        · rw [Nat.zero_add, Array.getElem?_setIfInBounds_ne (by omega)]
          exact hrest k hk (by omega)
        · simp only [List.getD_cons_succ, List.getD_cons_zero, intOf]; omega
    · obtain rfl : j = l.length := by omega
      rw [List.take_length] at hi htk
      unfold slices_DeleteFunc_int_int_k1
      rw [step_run (run_sliceFrom (i := ((i : Nat) : Int)) u42 sz3 (by omega) (by omega) hcap), show ((i : Nat) : Int).toNat = i by omega, if_neg (by omega)]
      simp only [Option.map_some, add_mk]
      refine st_clear hU2 hO2 0 rfl (by rw [hcs]; omega) (by omega) hgW ?_
      intro w3 hU3 hO3
      rw [step_run (run_sliceTo (i := ((i : Nat) : Int)) u42 sz3 (by omega) (by omega)), show ((i : Nat) : Int).toNat = i by omega, if_neg (by omega)]
      refine ⟨_, ⟨?_, .inr ⟨gt, cap, _, ?_, rfl, by omega, hmax, ?_, ?_⟩⟩, hO3, hU3, fun p hp => ?_⟩
      · simp [intsV]
      · rw [← hi]; simp [Addr.add]
      · simp [hcs]; omega
      · rw [← hi]
        simp only [Nat.mul_one, Nat.zero_add]
        simp only [List.append_assoc]
        rw [List.take_append_of_le_length (by simp [hcs]; omega), List.take_take, Nat.min_self]
        exact htk
      · rw [List.mem_singleton] at hp; subst hp; exact hgW
end Go.Proofs.Ytakifgecgmdjcaa
