/- Locks: New, Ask. -/
import Derived.Test.YtakifgecgmdjcaaLkE
namespace Go.Proofs.Ytakifgecgmdjcaa
open Go Xf Go.RowKit
set_option linter.unusedVariables false
set_option linter.unusedSimpArgs false
set_option maxRecDepth 100000

theorem build_tb (a b : Nat) (w : World) : (sBuild 65 [(0, .map (some a)), (1, .map (some b))]).run Try.prog w = .ok (.value (.agg #[.map (some a), .map (some b)])) w := by kernel_rfl
theorem build_nm (a : Nat) (w : World) : (sBuild 69 [(0, .map (some a))]).run Try.prog w = .ok (.value (.agg #[.map (some a), .slice none 0 0, .slice none 0 0])) w := by kernel_rfl
theorem row_int (a : Int) (w : World) : (sBuildSlice 42 1 [(0, .int .i64 a)]).run Try.prog w = .ok (.value (.slice (some ⟨w.heap.size, 0, none⟩) 1 1)) (w.alloc (.cells #[.int .i64 a] 3)) := by kernel_rfl
section
variable {W w w' : World} {ks : List Nat} {F G : List (Nat × Obj)} {T : Tb} {g : Nat} {K : Value → World → Prop}
theorem New_spec (hU : Upd W w ks) (hO : Owns w F) : CallsR Try.prog 20 #[] w fun u w' => ∃ g, u = .pointer (some ⟨g, 0, none⟩) ∧ W.heap.size ≤ g ∧ TbAt W ks F ⟨[], []⟩ g w' := by
  apply lock_New_sound
  unfold lock_New_x
  refine st_makeMap hU hO ?_
  intro bn w1 hU1 hO1 hbn
  refine st_makeMap hU1 hO1 ?_
  intro bw w2 hU2 hO2 hbw
  rw [step_run (build_tb _ _ _)]
  refine st_box hU2 hO2 ?_
  intro g w3 hU3 hO3 hg
  refine ⟨g, rfl, hg, hU3, tbL g bn bw (.map #[] 0) (.map #[] 0) [], ⟨bn, bw, _, _, [], rfl, MapO.nil _ _, MapO.nil _ _, NmsH.nil_⟩, ?_, fun p hp => ?_⟩
  · refine Owns.perm (h := (g, tbO bn bw) :: (bw, .map #[] 0) :: (bn, .map #[] 0) :: F) hO3 ?_
    exact (List.Perm.swap ..).cons _
  · simp only [tbL, List.mem_cons, List.not_mem_nil, or_false] at hp
    rcases hp with rfl | rfl | rfl
    · exact .inr hg
    · exact .inr hbn
    · exact .inr hbw

def argsOk (txn : Int) (w : Wt) : Prop := 1 ≤ txn ∧ 1 ≤ w.name.length ∧ w.name.length ≤ 16 ∧ 1 ≤ w.mode ∧ w.mode ≤ 5
instance (txn : Int) (w : Wt) : Decidable (argsOk txn w) := by unfold argsOk; infer_instance
def covB (n : Nm) (txn m : Int) : Bool := match aGet n.held txn with | some has => cov (sureN has) (sureN m) | none => false
def getsB (n : Nm) (txn m : Int) : Bool := goesB n txn (wouldN n txn m) && ((aGet n.held txn).isSome || decide (n.turns.length + n.row.length = 0))
def giveN (n : Nm) (txn m : Int) : Nm := { n with held := aSet n.held txn (wouldN n txn m) }
def queueN (n : Nm) (txn : Int) : Nm := if (aGet n.held txn).isSome then { n with turns := n.turns ++ [txn] } else { n with row := n.row ++ [txn] }
/-- Ask, where the name stands -/
def askAt (T : Tb) (q : Nat × Nm) (txn : Int) (w : Wt) : Tb × Bool :=
  if covB q.2 txn w.mode then (putN T w.name q, true)
  else if getsB q.2 txn w.mode then (putN T w.name (q.1, giveN q.2 txn w.mode), true)
  else (⟨aSet T.names w.name (q.1, queueN q.2 txn), aSet T.waits txn w⟩, false)
def askT (T : Tb) (new : Nat) (txn : Int) (w : Wt) : Tb × Bool × Int :=
  if argsOk txn w then
    if (aGet T.waits txn).isSome then (T, false, 10)
    else (let r := askAt T ((aGet T.names w.name).getD (new, noNm)) txn w; (r.1, r.2, 0))
  else (T, false, 1)
def askV (got : Bool) (e : Int) : Value := .tuple #[.bool got, .int .i64 e]
def wtBx (b : Nat) (v : Wt) : Nat × Obj := (b, .cells (wtV v).cells 30 (0, 0))

theorem wt_cells {b : Nat} {v : Wt} (h : w.heap[b]? = some (wtBx b v).2) : w.cell? ⟨b, 0, none⟩ = some (strV v.name) ∧ w.cell? ⟨b, 1, none⟩ = some (.int .i64 v.mode) := ⟨(cell_at h).trans rfl, (cell_at h).trans rfl⟩
theorem wt_load {b : Nat} {v : Wt} (h : w.heap[b]? = some (wtBx b v).2) : (loadVar 30 ⟨b, 0, none⟩).run Try.prog w = .ok (wtV v) w :=
  run_loadVarN (cs := [strV v.name, .int .i64 v.mode]) ag30 (by rw [sz30]; rfl) (cells_read (cs := #[strV v.name, .int .i64 v.mode]) h)
theorem names_get {l : List (List UInt8 × (Nat × Nm))} {s : List UInt8} : ((aGet l s).map ptV).getD (.pointer none) = match aGet l s with | some q => .pointer (some ⟨q.1, 0, none⟩) | none => .pointer none := by cases aGet l s <;> rfl
theorem waits_get {l : List (Int × Wt)} {x : Int} : ((aGet l x).map wtV).getD (.agg #[.string ⟨#[]⟩, .int .i64 0]) = wtV ((aGet l x).getD ⟨[], 0⟩) := by cases aGet l x <;> rfl
theorem modes_get {l : List (Int × Int)} {x : Int} : ((aGet l x).map keyI).getD (.int .i64 0) = .int .i64 ((aGet l x).getD 0) := by cases aGet l x <;> rfl
/-- a name's blocks: what its cells tell -/
theorem TbAt.name {s : List UInt8} {gn : Nat} {n : Nm} (h : TbAt W ks F T g w) (hn : aGet T.names s = some (gn, n)) : ∃ bh oh vt vr, w.cell? ⟨gn, 0, none⟩ = some (.map (some bh)) ∧ w.cell? ⟨gn, 1, none⟩ = some vt ∧ w.cell? ⟨gn, 2, none⟩ = some vr ∧ w.heap[gn]? = some (nmO bh vt vr) ∧
    w.heap[bh]? = some oh ∧ MapO keyI keyI n.held oh ∧ Rd w 1 vt n.turns.length (intsV .i64 n.turns) ∧ Rd w 1 vr n.row.length (intsV .i64 n.row) := by
  obtain ⟨hx, G, h1, h2, h3, h4, h5, h6⟩ := h.focus hn
  obtain ⟨bh, oh, vt, vr, hg, hm, hmap, r1, r2, c0, c1, c2⟩ := h1.look (fun p hp => List.mem_append_left G hp) h2
  exact ⟨bh, oh, vt, vr, c0, c1, c2, hg, h2.2 _ hm, hmap, r1, r2⟩
theorem TbAt.would {s : List UInt8} {gn : Nat} {n : Nm} (h : TbAt W ks F T g w) (hn : aGet T.names s = some (gn, n)) (txn m : Int) :
    CallsR Try.prog 25 #[.pointer (some ⟨gn, 0, none⟩), .int .i64 txn, .int .i64 m] w fun u w' => u = .int .i64 (wouldN n txn m) ∧ TbAt W ks F T g w' := by
  obtain ⟨hx, G, h1, h2, h3, h4, h5, h6⟩ := h.focus hn
  refine CallsR.mono (would_spec h1 (fun p hp => List.mem_append_left G hp) h2 txn m) ?_
  rintro u w' ⟨rfl, hU⟩
  exact ⟨rfl, h.upd hU⟩
theorem TbAt.goes {s : List UInt8} {gn : Nat} {n : Nm} (h : TbAt W ks F T g w) (hn : aGet T.names s = some (gn, n)) (txn m : Int) :
    CallsR Try.prog 26 #[.pointer (some ⟨gn, 0, none⟩), .int .i64 txn, .int .i64 m] w fun u w' => u = .bool (goesB n txn m) ∧ TbAt W ks F T g w' := by
  obtain ⟨hx, G, h1, h2, h3, h4, h5, h6⟩ := h.focus hn
  refine CallsR.mono (goes_spec h1 (fun p hp => List.mem_append_left G hp) h2 txn m) ?_
  rintro u w' ⟨rfl, hU⟩
  exact ⟨rfl, h.upd hU⟩
theorem TbAt.first {s : List UInt8} {gn : Nat} {n : Nm} (h : TbAt W ks F T g w) (hn : aGet T.names s = some (gn, n)) :
    CallsR Try.prog 56 #[.pointer (some ⟨gn, 0, none⟩)] w fun u w' => u = .int .i64 (firstN n) ∧ w' = w := by
  obtain ⟨hx, G, h1, h2, h3, h4, h5, h6⟩ := h.focus hn
  exact first_spec h1 (fun p hp => List.mem_append_left G hp) h2
theorem TbAt.leave {s : List UInt8} {gn : Nat} {n : Nm} (h : TbAt W ks F T g w) (hn : aGet T.names s = some (gn, n)) (hl : n.turns.length ≤ 1000000 ∧ n.row.length ≤ 1000000) (txn : Int) :
    CallsR Try.prog 43 #[.pointer (some ⟨gn, 0, none⟩), .int .i64 txn] w fun u w' => u = .bool (decide ((outN n.turns txn).length + (outN n.row txn).length < n.turns.length + n.row.length)) ∧ TbAt W ks F (putN T s (gn, leaveN n txn)) g w' := by
  obtain ⟨hx, G, h1, h2, h3, h4, h5, h6⟩ := h.focus hn
  refine CallsR.mono (leave_spec h1 h2 h3 h4 hl txn) ?_
  rintro u w' ⟨rfl, hU, hx', q1, q2, q3⟩
  exact ⟨rfl, h6 w' _ hx' q1 q2 hU q3⟩
/-- who has it, written -/
theorem TbAt.heldSet {s : List UInt8} {gn bh : Nat} {n : Nm} (h : TbAt W ks F T g w) (hn : aGet T.names s = some (gn, n)) (hc : w.cell? ⟨gn, 0, none⟩ = some (.map (some bh))) (k v : Int)
    (hk : ∀ w', TbAt W ks F (putN T s (gn, { n with held := aSet n.held k v })) g w' → K undef w') : (std Try.prog).step (sMapUpdate 67 (.map (some bh)) (.int .i64 k) (.int .i64 v)) w K := by
  obtain ⟨hx, G, h1, h2, h3, h4, h5, h6⟩ := h.focus hn
  obtain ⟨bh', oh, vt, vr, ht, hr, rfl, hmap, hrt, hrr⟩ := h1
  have : bh' = bh := by
    have := (cell_at (off := 0) (h2.at_ 0 rfl)).symm.trans hc
    simpa using this
  subst this
  refine st_mapUpdate uHeld keyI_ok h3 h2 1 rfl hmap (h4 (bh', oh) (by simp)) k v ?_
  intro w' o' hm' hU' hO'
  refine hk w' (h6 w' _ ((gn, nmO bh' vt vr) :: (bh', o') :: (ht ++ hr)) ⟨bh', o', vt, vr, ht, hr, rfl, hm', hrt, hrr⟩ hO' hU' fun p hp => ?_)
  simp only [List.mem_cons] at hp h4
  rcases hp with rfl | rfl | hp
  · exact h4 _ (.inl rfl)
  · exact h4 (bh', oh) (.inr (.inl rfl))
  · exact h4 p (.inr (.inr hp))
theorem TbAt.heldDel {s : List UInt8} {gn bh : Nat} {n : Nm} {ty kt' : TypeId} {cs : List Bool} (h : TbAt W ks F T g w) (hn : aGet T.names s = some (gn, n)) (hc : w.cell? ⟨gn, 0, none⟩ = some (.map (some bh))) (k : Int)
    (hk : ∀ w', TbAt W ks F (putN T s (gn, { n with held := aDel n.held k })) g w' → K (.tuple #[]) w') : (std Try.prog).step (sBuiltin .delete #[67, kt'] ty cs [.map (some bh), .int .i64 k]) w K := by
  obtain ⟨hx, G, h1, h2, h3, h4, h5, h6⟩ := h.focus hn
  obtain ⟨bh', oh, vt, vr, ht, hr, rfl, hmap, hrt, hrr⟩ := h1
  have : bh' = bh := by
    have := (cell_at (off := 0) (h2.at_ 0 rfl)).symm.trans hc
    simpa using this
  subst this
  refine st_mapDelete uHeld keyI_ok h3 h2 1 rfl hmap (h4 (bh', oh) (by simp)) k ?_
  intro w' o' hm' hU' hO'
  refine hk w' (h6 w' _ ((gn, nmO bh' vt vr) :: (bh', o') :: (ht ++ hr)) ⟨bh', o', vt, vr, ht, hr, rfl, hm', hrt, hrr⟩ hO' hU' fun p hp => ?_)
  simp only [List.mem_cons] at hp h4
  rcases hp with rfl | rfl | hp
  · exact h4 _ (.inl rfl)
  · exact h4 (bh', oh) (.inr (.inl rfl))
  · exact h4 p (.inr (.inr hp))
end
end Go.Proofs.Ytakifgecgmdjcaa
