/- slices.IndexFunc, slices.DeleteFunc over the closure of Fail. -/
import Derived.Test.YtilfkccahlkcaaaS4
import Derived.Lib.SliceRun
namespace Go.Proofs.Ytilfkccahlkcaaa
open Go Xf Go.RowKit
set_option linter.unusedVariables false
set_option linter.unusedSimpArgs false
set_option maxRecDepth 100000

theorem step_enter {P : Program} {w w' : World} {K : Value → World → Prop} {s : Sem Next} {f : FuncId} {args : Array Value} (h : s.run P w = .ok (.enter f args) w') : (std P).step s w K = CallsR P f args w' K := by
  show StepX P s w K = _
  unfold StepX
  rw [h]
def isV (gc : Nat) : Value := .func (.func 31) #[] #[.pointer (some ⟨gc, 0, none⟩)]
theorem mk_is (gc : Nat) (w : World) : (sMakeFunc (.func 31) [] [.pointer (some ⟨gc, 0, none⟩)]).run Try.prog w = .ok (.value (isV gc)) w := by kernel_rfl
theorem call_is (gc : Nat) (x : Value) (w : World) : (sCallV (isV gc) [x]).run Try.prog w = .ok (.enter 31 #[x, .pointer (some ⟨gc, 0, none⟩)]) w := by kernel_rfl
theorem is_spec {w : World} {gc : Nat} {inst : Int} (x : Int) (hc : w.cell? ⟨gc, 0, none⟩ = some (.int .i64 inst)) :
    CallsR Try.prog 31 #[.int .i64 x, .pointer (some ⟨gc, 0, none⟩)] w fun r w' => r = .bool (decide (x = inst)) ∧ w' = w := by
  apply own_Book_Fail_1_sound
  unfold own_Book_Fail_1_x
  simp (disch := first | assumption | omega) only [PX, LX]
  exact ⟨trivial, trivial⟩
theorem st_is {w : World} {gc : Nat} {inst x : Int} {K : Value → World → Prop} (hc : w.cell? ⟨gc, 0, none⟩ = some (.int .i64 inst)) (hk : K (.bool (decide (x = inst))) w) : (std Try.prog).step (sCallV (isV gc) [.int .i64 x]) w K := by
  rw [step_enter (call_is gc _ w)]
  refine CallsR.mono (is_spec x hc) ?_
  rintro _ _ ⟨rfl, rfl⟩
  exact hk

theorem IndexFunc_spec {w : World} {v : Value} {l : List Int} {gc : Nat} {inst : Int} (hc : w.cell? ⟨gc, 0, none⟩ = some (.int .i64 inst)) (hr : Rd w 1 v l.length (intsV .i64 l)) (hb : l.length < 9223372036854775807) :
    CallsR Try.prog 39 #[v, isV gc] w fun r w' => w' = w ∧ ((r = .int .i64 (-1) ∧ inst ∉ l) ∨ ∃ (i : Nat) (hi : i < l.length), r = .int .i64 i ∧ l[i] = inst ∧ inst ∉ l.take i) := by
  apply slices_IndexFunc_int_int_sound
  unfold slices_IndexFunc_int_int_x
  obtain ⟨A, c, rfl, hcap, _, hrd⟩ := hr
  simp (disch := omega) only [PX]
  refine st_loop (fun vs w' => w' = w ∧ ∃ i : Nat, vs.getD 2 undef = .int .i64 i ∧ i ≤ l.length ∧ inst ∉ l.take i) (fun vs _ => l.length - (intOf (vs.getD 2 undef)).toNat) ⟨rfl, 0, rfl, by omega, by simp⟩ ?_
  rintro dv vs w1 - ⟨he, i, e2, hi, hn⟩
  subst w1
  simp (disch := omega) only [e2, PX, BX]
  refine ⟨fun hlt => ?_, fun hge => ?_⟩
  · have hlt' : i < l.length := by omega
    obtain ⟨a', rfl, hx⟩ := hrd i (.int .i64 l[i]) (by simp [intsV, hlt'])
    simp (disch := first | assumption | omega) only [PX, LX, BX, Nat.mul_one]
    refine st_is hc ?_
    rw [bool_dec]
    simp (disch := first | assumption | omega) only [PX, w64]
    refine ⟨fun he => ⟨trivial, .inr ⟨i, hlt', rfl, he, hn⟩⟩, fun he => ⟨⟨trivial, i + 1, rfl, by omega, ?_⟩, ?_⟩⟩
    · rw [List.take_succ_eq_append_getElem hlt', List.mem_append, List.mem_singleton]
      rintro (h | h)
      · exact hn h
      · exact he h.symm
    · simp only [List.getD_cons_zero, List.getD_cons_succ, intOf]; omega
  · unfold slices_IndexFunc_int_int_k1
    refine ⟨rfl, .inl ⟨rfl, fun h => ?_⟩⟩
    rw [List.take_of_length_le (by omega)] at hn
    exact absurd h hn

theorem zero3 (w : World) : (zeroValue 3).run Try.prog w = .ok (.int .i64 0) w := by kernel_rfl
theorem run_clear36 {w : World} {g o n c : Nat} {cs : Array Value} (hn : 0 < n) (hg : w.heap[g]? = some (.cells cs 3 (0, 0))) (ho : o + n ≤ cs.size) :
    (sBuiltin .clear #[36] 0 [false] [.slice (some ⟨g, o, none⟩) n c]).run Try.prog w = .ok (.value (.tuple #[])) (w.setRow g (cs.toList.take o ++ List.replicate n (Value.int .i64 0) ++ cs.toList.drop (o + n)).toArray) := by
  have hzc : (Builtin.zeroCells (Value.int .i64 0).cells n).toList = List.replicate n (.int .i64 0) := by
    simp [Builtin.zeroCells, Value.cells]
    apply List.ext_getElem
    · simp
    · intro i h1 h2
      simp [Nat.mod_one]
  have hst := run_storeCells_at Try.prog g o 3 (List.replicate n (.int .i64 0)) 0 cs w hg (by simpa using ho) (by intro v hv; rw [List.eq_of_mem_replicate hv]; rfl)
  simp only [Nat.add_zero, List.length_replicate] at hst
  obtain ⟨m, rfl⟩ : ∃ m, n = m + 1 := ⟨n - 1, by omega⟩
  have hrun : (Builtin.clear_ #[36] 0 #[.slice (some ⟨g, o, none⟩) (m + 1) c]).run Try.prog w = .ok (.tuple #[]) (w.setRow g (cs.toList.take o ++ List.replicate (m + 1) (Value.int .i64 0) ++ cs.toList.drop (o + (m + 1))).toArray) := by
    simp [Builtin.clear_, run_underlying u36, zero3, hzc, hst]
  show (do pure (.value (← Builtin.clear_ #[36] 0 #[.slice (some ⟨g, o, none⟩) (m + 1) c])) : Sem Next).run Try.prog w = _
  rw [Sem.run_bind, hrun]
  rfl
theorem take_set' {α : Type} (l : List α) (n i : Nat) (a : α) : (l.set i a).take n = (l.take n).set i a := by
  apply List.ext_getElem?
  intro j
  simp only [List.getElem?_take, List.getElem?_set, List.length_take]
  split
  · split
    · by_cases h : i < l.length
      · rw [if_pos h, if_pos (by omega)]
      · rw [if_neg h, if_neg (by omega)]
    · rfl
  · split
    · rw [if_neg (by omega)]
    · rfl
theorem drop_set' {α : Type} (l : List α) (n i : Nat) (a : α) : (l.set (n + i) a).drop n = (l.drop n).set i a := by
  apply List.ext_getElem?
  intro j
  simp only [List.getElem?_drop, List.getElem?_set, List.length_drop]
  by_cases h : i = j
  · subst h
    by_cases h2 : n + i < l.length
    · simp [h2]; omega
    · simp [h2]; omega
  · rw [if_neg (by omega), if_neg h]

def without (l : List Int) (inst : Int) : List Int := l.filter fun k => decide (k ≠ inst)
theorem without_none {l : List Int} {inst : Int} (h : inst ∉ l) : without l inst = l := by
  unfold without
  rw [List.filter_eq_self]
  intro a ha
  simp only [ne_eq, decide_not, Bool.not_eq_true', decide_eq_false_iff_not]
  intro he; subst he; exact h ha
theorem without_succ {l : List Int} {inst : Int} {j : Nat} (h : j < l.length) : without (l.take (j + 1)) inst = without (l.take j) inst ++ (if l[j] = inst then [] else [l[j]]) := by
  unfold without
  rw [List.take_succ_eq_append_getElem h, List.filter_append]
  congr 1
  by_cases he : l[j] = inst <;> simp [he]
theorem without_len (l : List Int) (inst : Int) : (without l inst).length ≤ l.length := List.length_filter_le _ _

theorem DeleteFunc_spec {W w : World} {F : List (Nat × Obj)} {v : Value} {l : List Int} {h : List (Nat × Obj)} {gc : Nat} {inst : Int} (hU : Upd W w []) (hr : RowO 3 v l.length (intsV .i64 l) h) (hO : Owns w (h ++ F)) (hh : ∀ p ∈ h, W.heap.size ≤ p.1)
    (hc : (gc, Obj.cells #[.int .i64 inst] 3 (0, 0)) ∈ F) (hb : l.length ≤ 1000) :
    CallsR Try.prog 30 #[v, isV gc] w fun r w' => ∃ h', RowO 3 r (without l inst).length (intsV .i64 (without l inst)) h' ∧ Owns w' (h' ++ F) ∧ Upd W w' [] ∧ ∀ p ∈ h', W.heap.size ≤ p.1 := by
  apply slices_DeleteFunc_int_int_sound
  unfold slices_DeleteFunc_int_int_x
  have hcw : ∀ {w' : World} {h' : List (Nat × Obj)}, Owns w' (h' ++ F) → w'.cell? ⟨gc, 0, none⟩ = some (.int .i64 inst) := fun hO' => cell_at (hO'.2 (gc, Obj.cells #[.int .i64 inst] 3 (0, 0)) (List.mem_append_right _ hc))
  refine st_call (IndexFunc_spec (hcw hO) (hr.rd hO) (by omega)) ?_
  rintro r w1 ⟨he, hcs⟩
  subst w1
  rcases hcs with ⟨rfl, hn⟩ | ⟨i0, hi0, rfl, hat, hn⟩
  · simp (disch := omega) only [PX, BX]
    refine ⟨fun _ => ⟨h, by rw [without_none hn]; exact hr, hO, hU, hh⟩, fun h => absurd trivial h⟩
  simp (disch := omega) only [PX, BX, w64]
  refine ⟨fun h => by omega, fun _ => ?_⟩
  rcases hr.2 with ⟨_, h2, _⟩ | ⟨g, off, cap, cs0, rfl, rfl, hncap, hcap, hcs0, htake⟩
  · omega
  have hg : W.heap.size ≤ g := hh (g, .cells cs0 3 (0, 0)) (List.mem_singleton.2 rfl)
  refine st_loop (fun vs w' => ∃ (j : Nat) (M : List Int) (cs : Array Value), j ≤ l.length ∧ vs.getD 2 undef = .int .i64 j ∧ vs.getD 1 undef = .int .i64 ((without (l.take j) inst).length : Nat) ∧ (without (l.take j) inst).length < j ∧
      M.length = l.length ∧ M.take (without (l.take j) inst).length = without (l.take j) inst ∧ M.drop j = l.drop j ∧ off + cap ≤ cs.size ∧ (cs.toList.drop off).take l.length = intsV .i64 M ∧ Owns w' ((g, .cells cs 3 (0, 0)) :: F) ∧ Upd W w' [])
    (fun vs _ => l.length - (intOf (vs.getD 2 undef)).toNat) ?_ ?_
  · have hwo : without (l.take (i0 + 1)) inst = l.take i0 := by rw [without_succ hi0, if_pos hat, List.append_nil, without_none hn]
    have hlen : (l.take i0).length = i0 := by rw [List.length_take]; omega
    refine ⟨i0 + 1, l, cs0, by omega, rfl, ?_, ?_, rfl, ?_, rfl, hcs0, htake, hO, hU⟩
    · rw [hwo, hlen]; rfl
    · rw [hwo, hlen]; omega
    · rw [hwo, hlen]
  · clear hO hU htake hcs0
    rintro dv vs w1 - ⟨j, M, cs, hj, e2, e1, hkj, hM, hMt, hMd, hcs, htake, hO, hU⟩
    simp (disch := omega) only [e2, PX, BX]
    refine ⟨fun hlt => ?_, fun hge => ?_⟩
    · have hlt' : j < l.length := by omega
      have hMj : M[j]? = some l[j] := by
        have := congrArg (fun t => t[0]?) hMd
        simpa [List.getElem?_drop, hlt'] using this
      have hx : w1.cell? ((⟨g, off, none⟩ : Addr).add j) = some (.int .i64 l[j]) := by
        rw [add_mk, cell_at (hO.at_ 0 rfl)]
        have := congrArg (fun t => t[j]?) htake
        simp only [List.getElem?_take, if_pos hlt', List.getElem?_drop, intsV, List.getElem?_map, hMj] at this
        simpa using this
      simp (disch := first | assumption | omega) only [PX, LX, BX, Nat.mul_one]
      refine st_is (hcw (h' := [(g, .cells cs 3 (0, 0))]) hO) ?_
      simp only [PX]
      rw [bool_not, bool_dec]
      refine ⟨fun he => ?_, fun he => ?_⟩
      · have hws : without (l.take (j + 1)) inst = without (l.take j) inst := by rw [without_succ hlt', if_pos he, List.append_nil]
        unfold slices_DeleteFunc_int_int_k2
        simp (disch := omega) only [e2, e1, PX, w64]
        refine ⟨⟨j + 1, M, cs, by omega, rfl, by rw [hws]; rfl, by rw [hws]; omega, hM, by rw [hws]; exact hMt, ?_, hcs, htake, hO, hU⟩, ?_⟩
        · rw [← List.drop_drop, ← List.drop_drop, hMd]
        · simp only [List.getD_cons_zero, List.getD_cons_succ, intOf]; omega
      · have hws : without (l.take (j + 1)) inst = without (l.take j) inst ++ [l[j]] := by rw [without_succ hlt', if_neg he]
        have hkn : (without (l.take j) inst).length < l.length := by omega
        simp (disch := first | assumption | omega) only [e1, PX, Nat.mul_one, add_mk]
        refine st_storeB sz3 rfl hU hO 0 rfl (by omega) (.inr (Nat.zero_le _)) (.inr hg) ?_
        intro w2 hU2 hO2
        unfold slices_DeleteFunc_int_int_k2
        simp (disch := omega) only [e2, e1, PX, w64]
        refine ⟨⟨j + 1, M.set (without (l.take j) inst).length l[j], _, by omega, rfl, by rw [hws, List.length_append]; rfl, by rw [hws, List.length_append, List.length_singleton]; omega, by rw [List.length_set, hM], ?_, ?_, ?_, ?_, hO2, hU2⟩, ?_⟩
        · rw [hws, List.length_append, List.length_singleton, List.take_succ_eq_append_getElem (by rw [List.length_set]; omega), take_set', List.getElem_set_self]
          rw [List.set_eq_of_length_le (by rw [List.length_take]; omega), hMt]
        · apply List.ext_getElem?
          intro q
          have := congrArg (fun t => t[q + 1]?) hMd
          simp only [List.getElem?_drop] at this ⊢
          rw [List.getElem?_set_ne (by omega)]
          rw [show j + 1 + q = j + (q + 1) by omega]; exact this
        · rw [Array.size_setIfInBounds]; exact hcs
        · rw [Array.toList_setIfInBounds, drop_set', take_set', htake]
          simp [intsV, List.map_set]
        · simp only [List.getD_cons_zero, List.getD_cons_succ, intOf]; omega
    · have hjn : j = l.length := by omega
      subst hjn
      rw [List.take_length] at hkj e1 hMt
      unfold slices_DeleteFunc_int_int_k1
      rw [e1, step_run (run_sliceFrom u36 sz3 (by omega) (by omega) hncap), Int.toNat_natCast]
      rw [if_neg (by omega), Option.map_some, add_mk, Nat.mul_one]
      have hclr := run_clear36 (c := cap - (without l inst).length) (o := off + (without l inst).length) (n := l.length - (without l inst).length) (by omega) (hO.at_ 0 rfl) (by omega)
      rw [step_run hclr]
      rw [step_run (run_sliceTo u36 sz3 (by omega) (by omega)), Int.toNat_natCast, if_neg (by omega), Option.map_some, add_mk, Nat.add_zero]
      refine ⟨[(g, _)], ⟨by rw [intsV_len], .inr ⟨g, off, cap, _, rfl, rfl, by omega, hcap, ?_, ?_⟩⟩, hO.setRow 0 rfl _, hU.then_ (Upd.setRow _ _ _) fun x hx => by rw [List.mem_singleton] at hx; rw [hx]; exact .inr hg, fun p hp => by rw [List.mem_singleton] at hp; rw [hp]; exact hg⟩
      · simp only [List.size_toArray, List.length_append, List.length_take, List.length_drop, List.length_replicate, Array.length_toList]
        omega
      · have htl : (cs.toList.take (off + (without l inst).length)).length = off + (without l inst).length := by
          have hcsl : cs.toList.length = cs.size := Array.length_toList
          rw [List.length_take, hcsl]; omega
        rw [List.append_assoc, List.drop_append, htl, show off - (off + (without l inst).length) = 0 by omega, List.drop_zero]
        rw [List.drop_take, Nat.add_sub_cancel_left]
        have h1 : (cs.toList.drop off).take (without l inst).length = intsV .i64 (without l inst) := by
          have := congrArg (fun t => t.take (without l inst).length) htake
          simp only [List.take_take] at this
          rw [Nat.min_eq_left (by omega)] at this
          rw [this]
          unfold intsV
          rw [← List.map_take, hMt]
        rw [h1, show (without l inst).length = (intsV .i64 (without l inst)).length by rw [intsV_len]]
        exact List.take_left
end Go.Proofs.Ytilfkccahlkcaaa
