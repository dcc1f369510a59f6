/- What the functions of devices compute: Trim, Clone. -/
import Derived.Test.YtdkahgknoohbpaaS3
namespace Go.Proofs.Ytdkahgknoohbpaa
open Go Xf Go.RowKit
set_option linter.unusedVariables false
set_option linter.unusedSimpArgs false
set_option maxRecDepth 100000

variable {w W : World} {ks : List Nat} {F : List (Nat × Obj)}

theorem run_clear0 (w : World) (ty : TypeId) (c : List Bool) (A : Option Addr) (cap : Nat) : (sBuiltin .clear #[34] ty c [.slice A 0 cap]).run Try.prog w = .ok (.value (.tuple #[])) w := by
  obtain ⟨i, hi, hz, hs, hb⟩ := inf5
  have hv : ∀ w, (zeroValue 5).run Try.prog w = .ok (.int .u8 0) w := fun w => by simp [zeroValue, typeInfo, program, Sem.run, hi, hz]
  show (do pure (.value (← Builtin.clear_ #[34] ty #[.slice A 0 cap])) : Sem Next).run Try.prog w = _
  rw [Sem.run_bind]
  have : (Builtin.clear_ #[34] ty #[.slice A 0 cap]).run Try.prog w = .ok (.tuple #[]) w := by
    cases A <;> simp [Builtin.clear_, run_underlying u34, hv, storeCells, Builtin.zeroCells]
  rw [this]; rfl
theorem run_clear (w : World) {g o n cap : Nat} {cur : Array Value} (ty : TypeId) (c : List Bool) (hg : w.heap[g]? = some (.cells cur 5 (0, 0))) (hn : 0 < n) (hfit : o + n ≤ cur.size) :
    (sBuiltin .clear #[34] ty c [.slice (some ⟨g, o, none⟩) n cap]).run Try.prog w = .ok (.value (.tuple #[])) (w.setRow g (cur.toList.take o ++ List.replicate n (Value.int .u8 0) ++ cur.toList.drop (o + n)).toArray) := by
  obtain ⟨i, hi, hz, hs, hb⟩ := inf5
  have hv : ∀ w, (zeroValue 5).run Try.prog w = .ok (.int .u8 0) w := fun w => by simp [zeroValue, typeInfo, program, Sem.run, hi, hz]
  have hzc : (Builtin.zeroCells (Value.int .u8 0).cells n).toList = List.replicate n (Value.int .u8 0) := by
    rw [show (Value.int .u8 0).cells = #[Value.int .u8 0] from rfl]
    simp [Builtin.zeroCells]
    apply List.ext_getElem
    · simp
    · intro i h1 h2
      simp [Nat.mod_one]
  have hst := run_storeCells_at Try.prog g o 5 (List.replicate n (Value.int .u8 0)) 0 cur w hg (by simpa using hfit) (by intro v hv'; rw [List.eq_of_mem_replicate hv']; rfl)
  simp only [Nat.add_zero, List.length_replicate] at hst
  obtain ⟨m, rfl⟩ : ∃ m, n = m + 1 := ⟨n - 1, by omega⟩
  show (do pure (.value (← Builtin.clear_ #[34] ty #[.slice (some ⟨g, o, none⟩) (m + 1) cap])) : Sem Next).run Try.prog w = _
  rw [Sem.run_bind]
  have : (Builtin.clear_ #[34] ty #[.slice (some ⟨g, o, none⟩) (m + 1) cap]).run Try.prog w = .ok (.tuple #[]) (w.setRow g (cur.toList.take o ++ List.replicate (m + 1) (Value.int .u8 0) ++ cur.toList.drop (o + (m + 1))).toArray) := by
    simp [Builtin.clear_, run_underlying u34, hv, hzc, hst]
  rw [this]; rfl

theorem Trim_nil (w : World) (at_ : Int) : CallsR Try.prog 16 #[.pointer none, .int .i64 at_] w fun r w' => r = .int .i64 1 ∧ w' = w := by
  apply stable_Device_Trim_sound
  unfold stable_Device_Trim_x
  simp (disch := first | assumption | omega) only [PX, BX, LX]
  trivial
theorem take_end {α : Type} {l c : List α} {k n : Nat} (hk : k + c.length = n) (hn : n ≤ l.length) : (l.take k ++ c ++ l.drop n).take n = (l.take n).take k ++ c := by
  have hA : (l.take k ++ c).length = n := by rw [List.length_append, List.length_take]; omega
  rw [List.take_append, List.take_of_length_le (by omega), hA, Nat.sub_self, List.take_zero, List.append_nil, List.take_take, Nat.min_eq_left (by omega)]
theorem Trim_spec {d : Dv} {v : Value} {h : List (Nat × Obj)} (ok : DvOk d) (hd : DevH d v h) (hO : Owns w (h ++ F)) (hU : Upd W w ks) (hh : ∀ p ∈ h, p.1 ∈ ks ∨ W.heap.size ≤ p.1) (at_ : Int) :
    CallsR Try.prog 16 #[v, .int .i64 at_] w fun r w' => r = .int .i64 (trimD d at_).2 ∧ Upd W w' ks ∧
      ∃ h', DevH (trimD d at_).1 v h' ∧ Owns w' (h' ++ F) ∧ ∀ p ∈ h', p.1 ∈ ks ∨ W.heap.size ≤ p.1 := by
  apply stable_Device_Trim_sound
  unfold stable_Device_Trim_x
  have hsub : ∀ p ∈ h, p ∈ h ++ F := fun p hp => List.mem_append_left _ hp
  have hmost := ok.most
  obtain ⟨g, A, c, rfl, c0, hc, hrd, hup⟩ := hd.cells hsub hO
  have bad : (at_ < 0 ∨ (d.B.length : Int) < at_) → (Value.int .i64 2 = .int .i64 (trimD d at_).2 ∧ Upd W w ks ∧ ∃ h', DevH (trimD d at_).1 (.pointer (some ⟨g, 0, none⟩)) h' ∧ Owns w (h' ++ F) ∧ ∀ p ∈ h', p.1 ∈ ks ∨ W.heap.size ≤ p.1) :=
    fun hb => by unfold trimD; rw [if_pos hb]; exact ⟨rfl, hU, h, hd, hO, hh⟩
  simp (disch := first | assumption | omega) only [PX, BX, LX]
  refine ⟨fun h0 => bad (.inl h0), fun h0 => ⟨fun h1 => bad (.inr h1), fun h1 => ?_⟩⟩
  obtain ⟨a, rfl⟩ : ∃ k : Nat, at_ = k := ⟨at_.toNat, by omega⟩
  have hk := trim_len ok (a := a) (by omega)
  have ek : IntKind.wrap .i64 (IntKind.wrap .i64 ((IntKind.wrap .i64 (IntKind.wrap .i64 ((a : Int) + 64) - 1)).tdiv 64) * 64) = ((up64 a : Nat) : Int) := by
    rw [w64 (a := (a : Int) + 64) (by omega) (by omega), w64 (a := (a : Int) + 64 - 1) (by omega) (by omega), show ((a : Int) + 64 - 1) = ((a + 63 : Nat) : Int) by omega, show (64 : Int) = ((64 : Nat) : Int) from rfl, tdiv_nat]
    rw [w64 (a := (((a + 63) / 64 : Nat) : Int)) (by omega) (by omega), w64 (by omega) (by omega)]
    unfold up64; omega
  have hres : trimD d (a : Int) = (⟨d.B.take (up64 a) ++ List.replicate (d.B.length - up64 a) 0, d.up⟩, 0) := by unfold trimD; rw [if_neg (by omega), Int.toNat_natCast]
  rw [hres, ek]
  obtain ⟨g', vb, vs, hb, hu, hv, rfl, hrow, hupin⟩ := hd
  injection hv with hv; injection hv with hv; injection hv with hv; subst hv
  obtain ⟨A', c', rfl, hc'⟩ := hrow.sl
  have c0' : w.cell? ⟨g, 0, none⟩ = some (.slice A' d.B.length c') := cell_at (hO.at_ 0 rfl)
  rw [c0] at c0'
  injection c0' with c0'; injection c0' with e1 _ e3
  subst e1 e3
  rw [step_run (run_sliceFrom (i := ((up64 a : Nat) : Int)) u34 sz5 (by omega) (by omega) hc), Int.toNat_natCast]
  by_cases hz : d.B.length - up64 a = 0
  · rw [hz, step_run (run_clear0 _ _ _ _ _)]
    refine ⟨rfl, hU, _, ⟨g, _, vs, hb, hu, rfl, rfl, ?_, hupin⟩, hO, hh⟩
    have : d.B.take (up64 a) ++ List.replicate 0 0 = d.B := by rw [List.replicate_zero, List.append_nil, List.take_of_length_le (by omega)]
    show RowH _ _ _ (d.B.take (up64 a) ++ List.replicate 0 0).length (bytesV (d.B.take (up64 a) ++ List.replicate 0 0)) _
    rw [this]; exact hrow
  · rcases hrow.2 with ⟨_, h2, _⟩ | ⟨gB, capB, cur, he, rfl, h3, h4, h5, h6⟩
    · omega
    · injection he with e1 _ e3
      subst e1 e3
      rw [Nat.mul_one] at h5 h6
      rw [if_neg (by omega), Option.map_some, add_mk, Nat.zero_add, Nat.mul_one, step_run (run_clear w (o := up64 a) (n := d.B.length - up64 a) _ _ (hO.at_ 1 rfl) (by omega) (by omega))]
      have hO2 := hO.setRow 1 rfl (cur.toList.take (up64 a) ++ List.replicate (d.B.length - up64 a) (Value.int .u8 0) ++ cur.toList.drop (up64 a + (d.B.length - up64 a))).toArray
      have hl : (d.B.take (up64 a) ++ List.replicate (d.B.length - up64 a) (0 : UInt8)).length = d.B.length := by rw [List.length_append, List.length_take, List.length_replicate]; omega
      refine ⟨rfl, hU.then_ (Upd.setRow _ _ _) fun x hx => by rw [List.mem_singleton] at hx; rw [hx]; exact hh (gB, .cells cur 5 (0, 0)) (.tail _ (.head _)), _, ⟨g, _, vs, [(gB, .cells (cur.toList.take (up64 a) ++ List.replicate (d.B.length - up64 a) (Value.int .u8 0) ++ cur.toList.drop (up64 a + (d.B.length - up64 a))).toArray 5 (0, 0))], hu, rfl, rfl, ?_, hupin⟩, hO2, ?_⟩
      · refine ⟨by rw [bytesV_len, Nat.mul_one], .inr ⟨gB, c, _, by rw [hl], rfl, by rw [hl]; exact h3, h4, ?_, ?_⟩⟩
        · simp only [List.size_toArray, List.length_append, List.length_take, List.length_replicate, List.length_drop, Array.length_toList]; omega
        · rw [Nat.mul_one, hl, show up64 a + (d.B.length - up64 a) = d.B.length by omega]
          show (cur.toList.take (up64 a) ++ List.replicate (d.B.length - up64 a) (Value.int .u8 0) ++ cur.toList.drop d.B.length).take d.B.length = _
          rw [take_end (by rw [List.length_replicate]; omega) (by rw [Array.length_toList (xs := cur)]; omega), h6]
          simp [bytesV, List.map_take]
      · intro p hp
        rcases List.mem_cons.1 hp with rfl | hp
        · exact hh (g, .cells (.slice (some ⟨gB, 0, none⟩) d.B.length c :: vs).toArray 60 (0, 0)) (.head _)
        · rcases List.mem_append.1 hp with hp | hp
          · rw [List.mem_singleton] at hp; rw [hp]; exact hh (gB, .cells cur 5 (0, 0)) (.tail _ (.head _))
          · exact hh p (.tail _ (List.mem_append_right _ hp))

theorem run_indexA {P : Program} {w : World} {t e : TypeId} {n i : Nat} {cs : Array Value} {v : Value} (ht : P.underlying t = some (.array n e)) (hs : (P.info? e).map (·.size) = some 1) (ha : (P.underlying e).map isAggD = some false) (hi : i < n) (hv : cs[i]? = some v) :
    (sIndex t (.agg cs) (.int .i64 (i : Nat))).run P w = .ok (.value v) w := by
  unfold sIndex Instr.index
  rw [run_sV, Sem.run_bind, asIntOf_run]
  simp only [Result.andThen_ok, Sem.run_bind, run_underlying' ht]
  rw [if_pos ⟨by omega, by omega⟩]
  simp only [Sem.run_bind, run_sizeOf hs, Result.andThen_ok]
  unfold part
  rw [Sem.run_bind, run_isAgg ha]
  simp [hv]

theorem Clone_nil (w : World) : CallsR Try.prog 17 #[.pointer none] w fun r w' => r = .pointer none ∧ w' = w := by
  apply stable_Device_Clone_sound
  unfold stable_Device_Clone_x
  simp (disch := first | assumption | omega) only [PX, BX, LX]
  trivial
theorem Clone_spec {d : Dv} {v : Value} {h G : List (Nat × Obj)} (ok : DvOk d) (hd : DevH d v h) (hG : ∀ p ∈ h, p ∈ G) (hO : Owns w G) (hU : Upd W w ks) :
    CallsR Try.prog 17 #[v] w fun r w' => Upd W w' ks ∧ ∃ h', DevH d r h' ∧ Owns w' (h' ++ G) ∧ ∀ p ∈ h', W.heap.size ≤ p.1 := by
  apply stable_Device_Clone_sound
  unfold stable_Device_Clone_x
  have hmost := ok.most
  obtain ⟨g, A, c, rfl, c0, hc, hrd, hup⟩ := hd.cells hG hO
  have hd0 := hd
  obtain ⟨g', vb, vs, hb, hu, hv, rfl, hrow, hupin⟩ := hd0
  injection hv with hv; injection hv with hv; injection hv with hv; subst hv
  simp (disch := first | assumption | omega) only [PX, BX]
  refine st_newRow empty_row (Upd.refl w []) hO ?_
  intro g1 w1 hU1 hO1 hg1
  have c1 : w1.cell? ⟨g, 0, none⟩ = some (.slice A d.B.length c) := by rw [hU1.cell (World.block_lt_of_cell? w _ c0) (by simp)]; exact c0
  simp (disch := first | assumption | omega) only [PX, BX, LX]
  refine st_fill hO1 hU1 hg1 (hrd.mono hU1) (bytesV_one _) (by omega) ?_
  intro vB w2 hB hrB hO2 hU2 hhB
  obtain ⟨A2, c2, rfl, hc2⟩ := hrB.sl
  rw [step_run (build_dev _ _ _ _)]
  refine st_box hU2 hO2 ?_
  intro gc w3 hU3 hO3 hgc
  have hG3 : ∀ p ∈ G, p ∈ (gc, Obj.cells (.slice A2 d.B.length c2 :: List.replicate 8 (.pointer none)).toArray 60 (0, 0)) :: (hB ++ G) := fun p hp => .tail _ (List.mem_append_right _ hp)
  have hgm := hG _ (List.Mem.head _)
  simp (disch := first | assumption | omega) only [PX, BX, LX, add_mk, Nat.zero_add]
  refine st_loadN (cs := vs) ag58 (by rw [sz58, hupin.1]) (fun j v hj => by rw [add_mk, cell_at (hO3.2 _ (hG3 _ hgm))]; simpa [Nat.add_comm 1 j] using hj) ?_
  -- what is copied so far
  refine st_loop (fun us w' => ∃ (i : Nat) (vs' : List Value) (hu' : List (Nat × Obj)), i ≤ 8 ∧ us.getD 2 undef = .int .i64 (i : Nat) ∧ Upd w w' [] ∧
      Owns w' ((gc, .cells (.slice A2 d.B.length c2 :: vs').toArray 60 (0, 0)) :: (hu' ++ (hB ++ G))) ∧ (∀ p ∈ hu', w.heap.size ≤ p.1) ∧ vs'.length = 8 ∧
      (∀ (j : Nat) (u : Wr), d.up[j]? = some u → j < i → ∃ x, vs'[j]? = some x ∧ WrIn hu' u x) ∧ (∀ j, i ≤ j → j < 8 → vs'[j]? = some (.pointer none)))
    (fun us _ => 8 - (match us.getD 2 undef with | .int _ m => m.toNat | _ => 0)) ⟨0, _, [], by omega, rfl, hU3, hO3, fun p hp => (by cases hp), by simp, fun j u _ h => by omega, fun j _ h8 => by rw [List.getElem?_replicate, if_pos h8]⟩ ?_
  rintro dv us w4 - ⟨i, vs', hu', hi8, ei, hU4, hO4, hhu, hvl, hdone, hrest⟩
  simp (disch := first | assumption | omega) only [ei, PX, BX]
  have next : ∀ (vs2 : List Value) (hu2 : List (Nat × Obj)) (w5 : World) (u4 u5 : Value), i < 8 → Upd w w5 [] → Owns w5 ((gc, .cells (.slice A2 d.B.length c2 :: vs2).toArray 60 (0, 0)) :: (hu2 ++ (hB ++ G))) → (∀ p ∈ hu2, w.heap.size ≤ p.1) → vs2.length = 8 →
      (∀ (j : Nat) (u : Wr), d.up[j]? = some u → j < i + 1 → ∃ x, vs2[j]? = some x ∧ WrIn hu2 u x) → (∀ j, i + 1 ≤ j → j < 8 → vs2[j]? = some (.pointer none)) →
      stable_Device_Clone_k2 (std Try.prog) us (fun us' w' => (∃ (i : Nat) (vs' : List Value) (hu' : List (Nat × Obj)), i ≤ 8 ∧ us'.getD 2 undef = .int .i64 (i : Nat) ∧ Upd w w' [] ∧
      Owns w' ((gc, .cells (.slice A2 d.B.length c2 :: vs').toArray 60 (0, 0)) :: (hu' ++ (hB ++ G))) ∧ (∀ p ∈ hu', w.heap.size ≤ p.1) ∧ vs'.length = 8 ∧
      (∀ (j : Nat) (u : Wr), d.up[j]? = some u → j < i → ∃ x, vs'[j]? = some x ∧ WrIn hu' u x) ∧ (∀ j, i ≤ j → j < 8 → vs'[j]? = some (.pointer none))) ∧
      8 - (match us'.getD 2 undef with | .int _ m => m.toNat | _ => 0) < 8 - ((i : Int)).toNat) u4 u5 w5 fun r w' => Upd W w' ks ∧ ∃ h', DevH d r h' ∧ Owns w' (h' ++ G) ∧ ∀ p ∈ h', W.heap.size ≤ p.1 := by
    intro vs2 hu2 w5 u4 u5 hlt hU5 hO5 hh5 hl5 hd5 hr5
    unfold stable_Device_Clone_k2
    simp (disch := first | assumption | omega) only [ei, PX, BX]
    rw [w64 (by omega) (by omega)]
    refine ⟨⟨i + 1, vs2, hu2, by omega, by simp, hU5, hO5, hh5, hl5, hd5, hr5⟩, ?_⟩
    show 8 - ((i : Int) + 1).toNat < 8 - ((i : Int)).toNat
    rw [show ((i : Int) + 1).toNat = i + 1 by omega, Int.toNat_natCast]
    omega
  refine ⟨fun hlt => ?_, fun hge => ?_⟩
  · have hlt' : i < 8 := by omega
    obtain ⟨x, hxv, hx⟩ := hupin.2 i (d.up.getD i none) (by rw [List.getD_eq_getElem?_getD, List.getElem?_eq_getElem (show i < d.up.length by rw [ok.eight]; exact hlt')]; rfl)
    rw [step_run (run_indexA u58 sz57 ag57 hlt' (by simpa using hxv))]
    cases hud : d.up.getD i none with
    | none =>
      rw [hud] at hx
      obtain rfl : x = .pointer none := hx
      simp (disch := first | assumption | omega) only [PX, BX]
      refine next vs' hu' w4 _ _ hlt' hU4 hO4 hhu hvl (fun j u hj hji => ?_) (fun j hj h8 => hrest j (by omega) h8)
      by_cases he : j = i
      · subst he
        rw [List.getD_eq_getElem?_getD, hj] at hud
        obtain rfl : u = none := hud
        exact ⟨_, hrest j (Nat.le_refl _) hlt', rfl⟩
      · exact hdone j u hj (by omega)
    | some y =>
      obtain ⟨a, b⟩ := y
      rw [hud] at hx
      obtain ⟨gw, gb, cap, cs, rfl, hm1, hm2, hbc, htk⟩ := hx
      obtain ⟨f1, f2, f3, f4⟩ := ok.fits _ a b (getD_some hud)
      simp (disch := first | assumption | omega) only [PX, BX]
      have hmG : ∀ p ∈ hu, p ∈ (gc, Obj.cells (.slice A2 d.B.length c2 :: vs').toArray 60 (0, 0)) :: (hu' ++ (hB ++ G)) := fun p hp => .tail _ (List.mem_append_right _ (List.mem_append_right _ (hG p (.tail _ (List.mem_append_right _ hp)))))
      let S : World → Prop := fun w' => w'.heap[gw]? = some (.cells #[.int .i64 (a : Nat), .slice (some ⟨gb, 0, none⟩) b.length cap] 62 (0, 0))
      have hS : ∀ {w' : World}, Upd w w' [] → S w' := fun hu => (hu.keep gw (hO.lt (hG _ (.tail _ (List.mem_append_right _ hm1)))) (by simp)).trans (hO.2 _ (hG _ (.tail _ (List.mem_append_right _ hm1))))
      have hne : ∃ w', S w' := ⟨_, hS hU4⟩
      have q0 : ∀ w', S w' → w'.cell? ⟨gw, 0, none⟩ = some (.int .i64 (a : Nat)) := fun w' hs => cell_at hs
      have q1 : ∀ w', S w' → w'.cell? ⟨gw, 1, none⟩ = some (.slice (some ⟨gb, 0, none⟩) b.length cap) := fun w' hs => cell_at hs
      have hUd := hU4.trans (Upd.drew w4 [])
      refine st_draw S (hS hUd) ?_
      simp (disch := first | assumption | omega) only [SX, SLX, add_mk, Nat.zero_add]
      have hOd : Owns w4.drew _ := hO4.ext (Upd.drew w4 [])
      refine st_newRow empty_row hUd hOd ?_
      intro g5 w5 hU5 hO5 hg5
      refine st_same (hS hU5) ?_
      have hrb : Rd w5 1 (.slice (some ⟨gb, 0, none⟩) b.length cap) b.length (bytesV b) := ⟨_, _, rfl, hbc, by simp [bytesV], fun j u hj => ⟨_, rfl, by
        rw [add_mk, cell_at (hO5.2 _ (.tail _ (hmG _ hm2))), Nat.zero_add]
        rw [← htk, List.getElem?_take] at hj
        split at hj
        · simpa using hj
        · cases hj⟩⟩
      refine st_fill hO5 hU5 hg5 hrb (bytesV_one _) (by omega) ?_
      intro v6 w6 h6 hr6 hO6 hU6 hh6
      refine st_same (hS hU6) ?_
      obtain ⟨A6, c6, rfl, hc6⟩ := hr6.sl
      rw [step_run (build_wr _ _ _ _ _)]
      refine st_same (hS hU6) ?_
      refine st_box hU6 hO6 ?_
      intro g7 w7 hU7 hO7 hg7
      refine st_same (hS hU7) ?_
      simp (disch := first | assumption | omega) only [SX, SLX, add_mk, Nat.zero_add]
      have hO8 : Owns w7 ((gc, .cells (.slice A2 d.B.length c2 :: vs').toArray 60 (0, 0)) :: (((g7, .cells #[.int .i64 (a : Nat), .slice A6 b.length c6] 62 (0, 0)) :: h6) ++ (hu' ++ (hB ++ G)))) := hO7.perm (List.perm_middle (l₁ := (g7, _) :: h6))
      refine st_storeB (off := 1 + i) sz57 rfl hU7 hO8 0 rfl (by simp [hvl]; omega) (.inr (Nat.zero_le _)) (.inr hgc) ?_
      intro w9 hU9 hO9
      refine st_keepT (fun _ => True) trivial ?_
      rw [setUp] at hO9
      refine next (vs'.set i (.pointer (some ⟨g7, 0, none⟩))) (((g7, .cells #[.int .i64 (a : Nat), .slice A6 b.length c6] 62 (0, 0)) :: h6) ++ hu') w9 _ _ hlt' hU9 (by rw [List.append_assoc]; exact hO9) ?_ (by rw [List.length_set]; exact hvl) ?_ ?_
      · intro p hp
        rcases List.mem_append.1 hp with hp | hp
        · rcases List.mem_cons.1 hp with rfl | hp
          · exact hg7
          · exact hh6 p hp
        · exact hhu p hp
      · intro j u hj hji
        by_cases he : j = i
        · subst he
          rw [List.getD_eq_getElem?_getD, hj] at hud
          obtain rfl : u = some (a, b) := hud
          refine ⟨.pointer (some ⟨g7, 0, none⟩), by rw [List.getElem?_set]; simp [hvl, hlt'], ?_⟩
          rcases hr6.2 with ⟨_, hz, _⟩ | ⟨gb6, cap6, cs6, hv', rfl, hn, hcm, hcs, htk6⟩
          · omega
          · injection hv' with e1 e2 e3
            subst e1 e3
            exact ⟨g7, gb6, c6, cs6, rfl, by simp, by simp, hn, by simpa using htk6⟩
        · obtain ⟨x, h1, h2⟩ := hdone j u hj (by omega)
          exact ⟨x, by rw [List.getElem?_set_ne (Ne.symm he)]; exact h1, h2.mono fun p hp => List.mem_append_right _ hp⟩
      · intro j hj h8
        rw [List.getElem?_set_ne (by omega)]
        exact hrest j (by omega) h8
  · obtain rfl : i = 8 := by omega
    unfold stable_Device_Clone_k1
    refine ⟨hU.then_ hU4 fun x hx => (by cases hx), (gc, .cells (.slice A2 d.B.length c2 :: vs').toArray 60 (0, 0)) :: (hB ++ hu'), ⟨gc, _, vs', hB, hu', rfl, rfl, hrB, hvl, fun j u hj => hdone j u hj (by have := (List.getElem?_eq_some_iff.1 hj).1; rw [ok.eight] at this; exact this)⟩, ?_, ?_⟩
    · refine hO4.perm ?_
      simp only [List.cons_append, List.append_assoc]
      exact List.Perm.cons _ (List.perm_append_comm_assoc _ _ _)
    · intro p hp
      rcases List.mem_cons.1 hp with rfl | hp
      · exact Nat.le_trans hU.size hgc
      · rcases List.mem_append.1 hp with hp | hp
        · exact Nat.le_trans hU.size (hhB p hp)
        · exact Nat.le_trans hU.size (hhu p hp)
end Go.Proofs.Ytdkahgknoohbpaa
