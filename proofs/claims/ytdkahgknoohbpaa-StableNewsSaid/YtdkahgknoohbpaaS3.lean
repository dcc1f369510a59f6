/- What ends a write: end, Finish, Crash. -/
import Derived.Test.YtdkahgknoohbpaaS2
import Derived.Test.YtdkahgknoohbpaaT
namespace Go.Proofs.Ytdkahgknoohbpaa
open Go Xf Go.RowKit
set_option linter.unusedVariables false
set_option linter.unusedSimpArgs false
set_option maxRecDepth 100000

variable {w W : World} {ks : List Nat} {F : List (Nat × Obj)}

theorem putB_zero (B : List UInt8) (a : Nat) (b : List UInt8) : putB B a b 0 = B := by simp [putB]
theorem putB_step {B : List UInt8} {a : Nat} {b : List UInt8} {i : Nat} (h : a + b.length ≤ B.length) (hi : i + 64 ≤ b.length) :
    (putB B a b i).take (a + i) ++ (b.drop i).take 64 ++ (putB B a b i).drop (a + i + 64) = putB B a b (i + 64) := by
  have hl : (B.take a ++ b.take i).length = a + i := by simp only [List.length_append, List.length_take]; omega
  unfold putB
  rw [show a + i = (B.take a ++ b.take i).length from hl.symm, List.take_left, List.drop_length_add_append]
  rw [hl, List.drop_drop, List.take_add, List.append_assoc, List.append_assoc, List.append_assoc, List.append_assoc, Nat.add_assoc]
theorem mk_sec (v : Value) (w : World) : (sMakeFunc (.func 25) [v] []).run Try.prog w = .ok (.value (.func (.func 25) #[v] #[])) w := by kernel_rfl

theorem take_mid {α : Type} {l c : List α} {k n : Nat} (hc : c.length = 64) (hk : k + 64 ≤ n) (hn : n ≤ l.length) : (l.take k ++ c ++ l.drop (k + 64)).take n = (l.take n).take k ++ c ++ (l.take n).drop (k + 64) := by
  have hA : (l.take k ++ c).length = k + 64 := by rw [List.length_append, List.length_take, hc]; omega
  rw [List.take_append, List.take_of_length_le (by omega), hA, List.take_take, Nat.min_eq_left (by omega), List.drop_take]

/-- 64 bytes of a write are copied onto the device -/
theorem run_copy64 (w : World) {g k cap gb i capb : Nat} {cur cs : Array Value} {n : Nat} {c : List Bool} {fb : Nat × Nat} (hg : w.heap[g]? = some (.cells cur 5 (0, 0))) (hk : k + 64 ≤ n) (hn : n ≤ cur.size) (hb : w.heap[gb]? = some (.cells cs 5 fb)) (hi : i + 64 ≤ cs.size) (h1 : ∀ v ∈ (cs.toList.drop i).take 64, v.oneCell' = true) (ty : TypeId) :
    (sBuiltin .copy #[34, 34] ty c [.slice (some ⟨g, k, none⟩) (n - k) cap, .slice (some ⟨gb, i, none⟩) 64 capb]).run Try.prog w =
      .ok (.value (.int .i64 64)) (w.setRow g (cur.toList.take k ++ (cs.toList.drop i).take 64 ++ cur.toList.drop (k + 64)).toArray) := by
  have hl : ((cs.toList.drop i).take 64).length = 64 := by simp only [List.length_take, List.length_drop, Array.length_toList]; omega
  have hmin : Nat.min 64 (n - k) = 64 := Nat.min_eq_left (by omega)
  have hr := run_copyN (P := Try.prog) w 34 34 ty 5 1 g k (n - k) cap ⟨gb, i, none⟩ 64 capb cur 5 ((cs.toList.drop i).take 64) u34 sz5 hg (by rw [hmin, hl])
    (fun j v hj => by
      rw [add_mk, cell_at hb]
      rw [List.getElem?_take] at hj
      split at hj
      · rw [List.getElem?_drop] at hj
        simpa using hj
      · cases hj) (by rw [hl]; omega) h1
  rw [hl, hmin] at hr
  show (do pure (.value (← Builtin.copy_ #[34, 34] ty #[.slice (some ⟨g, k, none⟩) (n - k) cap, .slice (some ⟨gb, i, none⟩) 64 capb])) : Sem Next).run Try.prog w = _
  rw [Sem.run_bind, hr]
  rfl

theorem end_nil (w : World) (hand most : Int) : CallsR Try.prog 23 #[.pointer none, .int .i64 hand, .int .i64 most] w fun r w' => r = .int .i64 1 ∧ Upd w w' [] := by
  refine end_walk (W := w) (ks := []) ?_
  unfold end_pre_x
  refine st_box (Upd.refl w []) (Owns.nil w) ?_
  intro g3 w1 hU1 hO1 hg3
  refine st_box hU1 hO1 ?_
  intro g5 w2 hU2 hO2 hg5
  have c3 : w2.cell? ⟨g3, 0, none⟩ = some (.pointer none) := cell_at (hO2.at_ 1 rfl)
  simp (disch := first | assumption | omega) only [PX, BX, LX]
  refine st_call (known_nil w2 hand) ?_
  rintro _ u' ⟨rfl, hu'⟩
  subst u'
  simp (disch := first | assumption | omega) only [PX, BX, LX]
  exact ⟨trivial, hU2⟩

theorem end_spec {d : Dv} {v : Value} {h : List (Nat × Obj)} (ok : DvOk d) (hd : DevH d v h) (hO : Owns w (h ++ F)) (hU : Upd W w ks) (hh : ∀ p ∈ h, p.1 ∈ ks ∨ W.heap.size ≤ p.1) (hand most : Int) :
    CallsR Try.prog 23 #[v, .int .i64 hand, .int .i64 most] w fun r w' => r = .int .i64 (endD d hand most).2 ∧ Upd W w' ks ∧
      ∃ h', DevH (endD d hand most).1 v h' ∧ Owns w' (h' ++ F) ∧ ∀ p ∈ h', p.1 ∈ ks ∨ W.heap.size ≤ p.1 := by
  refine end_walk (W := W) (ks := ks) ?_
  unfold end_pre_x
  have hsub : ∀ p ∈ h, p ∈ h ++ F := fun p hp => List.mem_append_left _ hp
  have hd0 := hd
  obtain ⟨g, vb, vs, hb, hu, rfl, rfl, hrow, hupin⟩ := hd0
  refine st_box hU hO ?_
  intro g3 w1 hU1 hO1 hg3
  refine st_box hU1 hO1 ?_
  intro g5 w2 hU2 hO2 hg5
  have c3 : w2.cell? ⟨g3, 0, none⟩ = some (.pointer (some ⟨g, 0, none⟩)) := cell_at (hO2.at_ 1 rfl)
  simp (disch := first | assumption | omega) only [PX, BX, LX]
  refine st_call (known_spec w2 _ hand) ?_
  rintro _ u' ⟨rfl, hu'⟩
  subst u'
  have same : ∀ (w' : World) (e : Int) (l : List (Nat × Obj)), Upd W w' ks → Owns w' (l ++ (((g, .cells (vb :: vs).toArray 60 (0, 0)) :: (hb ++ hu)) ++ F)) → endD d hand most = (d, e) → (Value.int .i64 e = .int .i64 (endD d hand most).2 ∧ Upd W w' ks ∧
      ∃ h', DevH (endD d hand most).1 (.pointer (some ⟨g, 0, none⟩)) h' ∧ Owns w' (h' ++ F) ∧ ∀ p ∈ h', p.1 ∈ ks ∨ W.heap.size ≤ p.1) := fun w' e l hU' hO' he => by
    rw [he]; exact ⟨rfl, hU', _, hd, hO'.sub (List.sublist_append_right _ _), hh⟩
  simp (disch := first | assumption | omega) only [PX, BX, LX]
  refine ⟨fun hha => ?_, fun hha => same w2 1 [_, _] hU2 hO2 (by unfold endD; rw [if_neg hha])⟩
  obtain ⟨k, rfl⟩ : ∃ k : Nat, hand = k := ⟨hand.toNat, by unfold hands at hha; omega⟩
  have hk8 : k < 8 := by unfold hands at hha; omega
  obtain ⟨x, hxv, hx⟩ := hupin.2 k (d.up.getD k none) (by rw [List.getD_eq_getElem?_getD, List.getElem?_eq_getElem (show k < d.up.length by rw [ok.eight]; exact hk8)]; rfl)
  have cx : w2.cell? ⟨g, 1 + k, none⟩ = some x := by rw [cell_at (hO2.at_ 2 rfl)]; simp [Nat.add_comm 1 k, hxv]
  simp (disch := first | assumption | omega) only [PX, BX, LX, add_mk, Nat.zero_add]
  refine st_alloc ze57 hU2 hO2 ?_
  intro g7 w3 hU3 hO3 hg7
  refine st_storeB (off := 0) sz57 hx.one hU3 hO3 0 rfl (by decide) (.inr (Nat.zero_le _)) (.inr hg7) ?_
  intro w4 hU4 hO4
  have c7 : w4.cell? ⟨g7, 0, none⟩ = some x := cell_at (hO4.at_ 0 rfl)
  have c3' : w4.cell? ⟨g3, 0, none⟩ = some (.pointer (some ⟨g, 0, none⟩)) := cell_at (hO4.at_ 2 rfl)
  cases hud : d.up.getD k none with
  | none =>
    rw [hud] at hx
    obtain rfl : x = .pointer none := hx
    simp (disch := first | assumption | omega) only [PX, BX, LX]
    exact same w4 8 [_, _, _] hU4 hO4 (by unfold endD; rw [if_pos hha, Int.toNat_natCast, hud])
  | some y =>
    obtain ⟨a, b⟩ := y
    rw [hud] at hx
    obtain ⟨gw, gb, cap, cs, rfl, hm1, hm2, hbc, htk⟩ := hx
    obtain ⟨f1, f2, f3, f4⟩ := ok.fits _ a b (getD_some hud)
    have hmost := ok.most
    simp (disch := first | assumption | omega) only [PX, BX, LX]
    refine st_alloc ze3 hU4 hO4 ?_
    intro g8 w5 hU5 hO5 hg8
    refine st_storeB (off := 0) sz3 rfl hU5 hO5 0 rfl (by decide) (.inr (Nat.zero_le _)) (.inr hg8) ?_
    intro w6 hU6 hO6
    have c7 : w6.cell? ⟨g7, 0, none⟩ = some (.pointer (some ⟨gw, 0, none⟩)) := cell_at (hO6.at_ 1 rfl)
    simp (disch := first | assumption | omega) only [PX, BX, LX]
    rw [step_run (mk_sec _ _)]
    have hres : endD d k most = (⟨putB d.B a b (cutL b.length most), d.up.set k none⟩, 0) := by unfold endD; rw [if_pos hha, Int.toNat_natCast, hud]
    rw [hres]
    -- the blocks of this activation
    let loc : Nat → List (Nat × Obj) := fun i => [(g8, .cells #[.int .i64 (i : Nat)] 3 (0, 0)), (g7, .cells #[.pointer (some ⟨gw, 0, none⟩)] 57 (0, 0)), (g5, .cells #[.int .i64 most] 3 (0, 0)), (g3, .cells #[.pointer (some ⟨g, 0, none⟩)] 27 (0, 0))]
    obtain ⟨nn, hnn⟩ : ∃ nn, b.length = 64 * nn := ⟨b.length / 64, by omega⟩
    have hbne : ∃ gB capB, vb = .slice (some ⟨gB, 0, none⟩) d.B.length capB ∧ d.B.length ≤ capB ∧ ∃ cur, hb = [(gB, .cells cur 5 (0, 0))] ∧ cur.size = capB ∧ cur.toList.take d.B.length = bytesV d.B := by
      rcases hrow.2 with ⟨_, hz, _⟩ | ⟨gB, capB, cur, h1, h2, h3, h4, h5, h6⟩
      · omega
      · exact ⟨gB, capB, h1, h3, cur, h2, by rw [h5]; omega, by simpa using h6⟩
    obtain ⟨gB, capB, rfl, hcapB, cur0, rfl, hcur0, htk0⟩ := hbne
    let dev : Array Value → List (Nat × Obj) := fun cur => (g, .cells (.slice (some ⟨gB, 0, none⟩) d.B.length capB :: vs).toArray 60 (0, 0)) :: ((gB, .cells cur 5 (0, 0)) :: hu)
    have hwb : cs.size ≥ b.length := by
      have := congrArg List.length htk
      rw [List.length_take, bytesV_len, Array.length_toList (xs := cs)] at this
      omega
    refine ⟨gw, (a : Nat), some ⟨gb, 0, none⟩, cap, nn, 62, (0, 0), loc 0 ++ (dev cur0 ++ F),
      fun i hh => ∃ cur : Array Value, cur.size = capB ∧ cur.toList.take d.B.length = bytesV (putB d.B a b (64 * i)) ∧ hh = loc i ++ (dev cur ++ F) ∧ ∀ j : Nat, j < i → (j : Int) ≠ most,
      fun hh => ∃ (cur : Array Value) (i : Nat), cur.size = capB ∧ cur.toList.take d.B.length = bytesV (putB d.B a b (cutL b.length most)) ∧ hh = loc i ++ (dev cur ++ F),
      fun v hh => v = .int .i64 0 ∧ ∃ (cur : Array Value) (i : Nat), cur.size = capB ∧ cur.toList.take d.B.length = bytesV (putB d.B a b (cutL b.length most)) ∧
        hh = loc i ++ (((g, .cells (.slice (some ⟨gB, 0, none⟩) d.B.length capB :: vs.set k (.pointer none)).toArray 60 (0, 0)) :: ((gB, .cells cur 5 (0, 0)) :: hu)) ++ F),
      rfl, by omega, hU6, hO6, ⟨cur0, hcur0, by rw [Nat.mul_zero, putB_zero]; exact htk0, rfl, fun j hj => by omega⟩, ?_, ?_, ?_, ?_⟩
    · rintro i hh hi ⟨cur, _, _, rfl, _⟩
      rw [← hnn]
      exact List.mem_append_right _ (List.mem_append_left _ (.tail _ (.tail _ hm1)))
    · rintro i hh F' w7 s hi ⟨cur, hcur, htkc, rfl, hne⟩ hU7 hO7 s3 s5 s7 s8 s9
      unfold end_body_x
      have c8 : w7.cell? ⟨g8, 0, none⟩ = some (.int .i64 (i : Nat)) := cell_at (hO7.at_ 0 rfl)
      have c5 : w7.cell? ⟨g5, 0, none⟩ = some (.int .i64 most) := cell_at (hO7.at_ 2 rfl)
      simp (disch := first | assumption | omega) only [s3, s5, s7, s8, s9, PX, BX, LX]
      refine ⟨fun hem => ⟨_, ⟨cur, i, hcur, ?_, rfl⟩, hU7, hO7⟩, fun hnm => ?_⟩
      · rw [htkc]
        congr 2
        unfold cutL; rw [if_neg (by omega)]; omega
      have hmem1 : (gw, Obj.cells #[.int .i64 (a : Nat), .slice (some ⟨gb, 0, none⟩) b.length cap] 62 (0, 0)) ∈ (loc i ++ (dev cur ++ F)) ++ F' := List.mem_append_left _ (List.mem_append_right _ (List.mem_append_left _ (.tail _ (.tail _ hm1))))
      have hmem2 : (gb, Obj.cells cs 5 (0, 0)) ∈ (loc i ++ (dev cur ++ F)) ++ F' := List.mem_append_left _ (List.mem_append_right _ (List.mem_append_left _ (.tail _ (.tail _ hm2))))
      have hO8 : Owns w7.drew ((loc i ++ (dev cur ++ F)) ++ F') := hO7.ext (Upd.drew w7 [])
      have hU8 : Upd W w7.drew ks := hU7.then_ (Upd.drew w7 []) fun x hx => by cases hx
      have hne' : ∃ w', (fun w' => Owns w' ((loc i ++ (dev cur ++ F)) ++ F')) w' := ⟨_, hO7⟩
      have q3 : ∀ w', Owns w' ((loc i ++ (dev cur ++ F)) ++ F') → w'.cell? ⟨g3, 0, none⟩ = some (.pointer (some ⟨g, 0, none⟩)) := fun w' ho => cell_at (ho.at_ 3 rfl)
      have q7 : ∀ w', Owns w' ((loc i ++ (dev cur ++ F)) ++ F') → w'.cell? ⟨g7, 0, none⟩ = some (.pointer (some ⟨gw, 0, none⟩)) := fun w' ho => cell_at (ho.at_ 1 rfl)
      have qg : ∀ w', Owns w' ((loc i ++ (dev cur ++ F)) ++ F') → w'.cell? ⟨g, 0, none⟩ = some (.slice (some ⟨gB, 0, none⟩) d.B.length capB) := fun w' ho => cell_at (ho.at_ 4 rfl)
      have qw0 : ∀ w', Owns w' ((loc i ++ (dev cur ++ F)) ++ F') → w'.cell? ⟨gw, 0, none⟩ = some (.int .i64 (a : Nat)) := fun w' ho => cell_at (ho.2 _ hmem1)
      have qw1 : ∀ w', Owns w' ((loc i ++ (dev cur ++ F)) ++ F') → w'.cell? ⟨gw, 1, none⟩ = some (.slice (some ⟨gb, 0, none⟩) b.length cap) := fun w' ho => cell_at (ho.2 _ hmem1)
      have e1 : IntKind.wrap .i64 ((a : Int) + ((64 * i : Nat) : Int)) = ((a + 64 * i : Nat) : Int) := by rw [w64 (by omega) (by omega)]; omega
      have e2 : IntKind.wrap .i64 (((64 * i : Nat) : Int) + 64) = ((64 * i + 64 : Nat) : Int) := by rw [w64 (by omega) (by omega)]; omega
      refine st_draw (fun w' => Owns w' ((loc i ++ (dev cur ++ F)) ++ F')) hO8 ?_
      have r1 : ∀ {k : Value → Prop}, (std Try.prog).stepS (fun w' => Owns w' ((loc i ++ (dev cur ++ F)) ++ F')) (sSlice 34 (.slice (some ⟨gB, 0, none⟩) d.B.length capB) (some (.int .i64 ((a + 64 * i : Nat) : Int))) none none) k = k (.slice (some ⟨gB, a + 64 * i, none⟩) (d.B.length - (a + 64 * i)) (capB - (a + 64 * i))) := fun {k} => by
        refine stepS_run hne' fun w' _ => ?_
        have := run_sliceFrom (P := Try.prog) (w := w') (A := some ⟨gB, 0, none⟩) (n := d.B.length) (c := capB) (q := .i64) (i := ((a + 64 * i : Nat) : Int)) u34 sz5 (by omega) (by omega) hcapB
        rw [Int.toNat_natCast, if_neg (by omega), Option.map_some, add_mk, Nat.zero_add, Nat.mul_one] at this
        exact this
      have r2 : ∀ {k : Value → Prop}, (std Try.prog).stepS (fun w' => Owns w' ((loc i ++ (dev cur ++ F)) ++ F')) (sSlice 34 (.slice (some ⟨gb, 0, none⟩) b.length cap) (some (.int .i64 ((64 * i : Nat) : Int))) (some (.int .i64 ((64 * i + 64 : Nat) : Int))) none) k = k (.slice (some ⟨gb, 64 * i, none⟩) 64 (cap - 64 * i)) := fun {k} => by
        refine stepS_run hne' fun w' _ => ?_
        have := run_slice2 (P := Try.prog) (w := w') (A := some ⟨gb, 0, none⟩) (n := b.length) (c := cap) (lo := 64 * i) (hi := 64 * i + 64) u34 sz5 (by omega) (by omega)
        rw [if_neg (by omega), Option.map_some, add_mk, Nat.zero_add, Nat.mul_one, Nat.add_sub_cancel_left] at this
        exact this
      simp (disch := first | assumption | omega) only [SX, SLX, add_mk, Nat.zero_add, e1, e2, r1, r2]
      have hone : ∀ v ∈ (cs.toList.drop (64 * i)).take 64, v.oneCell' = true := by
        intro v hv
        have e : (cs.toList.drop (64 * i)).take 64 = ((bytesV b).drop (64 * i)).take 64 := by
          rw [← htk, List.drop_take, List.take_take, Nat.min_eq_left (by omega)]
        rw [e] at hv
        exact bytesV_one b v (List.mem_of_mem_drop (List.mem_of_mem_take hv))
      rw [step_run (run_copy64 w7.drew (hO8.at_ 5 rfl) (n := d.B.length) (k := a + 64 * i) (by omega) (by omega) (hO8.2 _ hmem2) (by omega) hone _)]
      refine st_keepT (fun _ => True) trivial ?_
      have hO9 := hO8.setRow 5 rfl (cur.toList.take (a + 64 * i) ++ (cs.toList.drop (64 * i)).take 64 ++ cur.toList.drop (a + 64 * i + 64)).toArray
      have hU9 : Upd W (w7.drew.setRow gB (cur.toList.take (a + 64 * i) ++ (cs.toList.drop (64 * i)).take 64 ++ cur.toList.drop (a + 64 * i + 64)).toArray) ks :=
        hU8.then_ (Upd.setRow _ _ _) fun x hx => by rw [List.mem_singleton] at hx; rw [hx]; exact hh (gB, .cells cur0 5 (0, 0)) (.tail _ (.head _))
      generalize w7.drew.setRow gB (cur.toList.take (a + 64 * i) ++ (cs.toList.drop (64 * i)).take 64 ++ cur.toList.drop (a + 64 * i + 64)).toArray = w9 at *
      have c8 : w9.cell? ⟨g8, 0, none⟩ = some (.int .i64 (i : Nat)) := cell_at (hO9.at_ 0 rfl)
      simp (disch := first | assumption | omega) only [PX, BX, LX]
      rw [w64 (by omega) (by omega)]
      refine st_storeB (off := 0) sz3 rfl hU9 hO9 0 rfl Nat.zero_lt_one (.inr (Nat.zero_le _)) (.inr hg8) ?_
      intro w10 hU10 hO10
      refine ⟨_, ⟨(cur.toList.take (a + 64 * i) ++ (cs.toList.drop (64 * i)).take 64 ++ cur.toList.drop (a + 64 * i + 64)).toArray, ?_, ?_, rfl, ?_⟩, hU10, hO10⟩
      · simp only [List.size_toArray, List.length_append, List.length_take, List.length_drop, Array.length_toList]; omega
      · rw [show 64 * (i + 1) = 64 * i + 64 by omega, ← putB_step (i := 64 * i) f4 (by omega)]
        have hC : (cs.toList.drop (64 * i)).take 64 = bytesV ((b.drop (64 * i)).take 64) := by
          have e : (cs.toList.drop (64 * i)).take 64 = ((bytesV b).drop (64 * i)).take 64 := by
            rw [← htk, List.drop_take, List.take_take, Nat.min_eq_left (by omega)]
          rw [e]; simp [bytesV, List.map_take, List.map_drop]
        show (cur.toList.take (a + 64 * i) ++ (cs.toList.drop (64 * i)).take 64 ++ cur.toList.drop (a + 64 * i + 64)).take d.B.length = _
        rw [take_mid (by rw [hC, bytesV_len, List.length_take, List.length_drop]; omega) (by omega) (by rw [Array.length_toList (xs := cur)]; omega), htkc, hC]
        simp [bytesV, List.map_take, List.map_drop]
      · intro j hj
        by_cases hji : j = i
        · subst hji; exact hnm
        · exact hne j (by omega)
    · intro h F' w7 s hcase hU7 hO7 s3 s1
      have hx : ∃ (cur : Array Value) (i : Nat), cur.size = capB ∧ cur.toList.take d.B.length = bytesV (putB d.B a b (cutL b.length most)) ∧ h = loc i ++ (dev cur ++ F) := by
        rcases hcase with ⟨cur, h1, h2, rfl, h4⟩ | hx
        · refine ⟨cur, nn, h1, ?_, rfl⟩
          rw [h2]
          congr 2
          unfold cutL
          split
          · omega
          · have : ¬ (most.toNat < nn) := fun hlt => h4 most.toNat hlt (by omega)
            omega
        · exact hx
      obtain ⟨cur, i, hcur, htkc, rfl⟩ := hx
      unfold end_rest_x
      have c3 : w7.cell? ⟨g3, 0, none⟩ = some (.pointer (some ⟨g, 0, none⟩)) := cell_at (hO7.at_ 3 rfl)
      simp (disch := first | assumption | omega) only [s3, s1, PX, BX, LX, add_mk, Nat.zero_add]
      refine st_storeB (off := 1 + k) sz57 rfl hU7 hO7 4 rfl (by simp [hupin.1]; omega) (.inr (Nat.zero_le _)) (hh (g, .cells (.slice (some ⟨gB, 0, none⟩) d.B.length capB :: vs).toArray 60 (0, 0)) (.head _)) ?_
      intro w8 hU8 hO8
      rw [setUp] at hO8
      exact ⟨_, ⟨trivial, cur, i, hcur, htkc, rfl⟩, hU8, hO8⟩
    · rintro v h' w7 ⟨rfl, cur, i, hcur, htkc, rfl⟩ hU7 hO7
      have hl := putB_len (k := cutL b.length most) f4 (cutL_le _ _)
      refine ⟨rfl, hU7, _, ⟨g, _, _, [(gB, .cells cur 5 (0, 0))], hu, rfl, rfl, ⟨by rw [bytesV_len, Nat.mul_one], .inr ⟨gB, capB, cur, by rw [hl], rfl, by rw [hl]; exact hcapB, ?_, by omega, ?_⟩⟩, hupin.set hk8 rfl⟩, hO7.sub (List.sublist_append_right _ _), ?_⟩
      · rcases hrow.2 with ⟨h1, _, _⟩ | ⟨gB', capB', cur', h1, h2, h3, h4, h5, h6⟩
        · cases h1
        · injection h1 with _ _ h1; rw [h1]; exact h4
      · rw [Nat.mul_one, hl]; exact htkc
      · intro p hp
        rcases List.mem_cons.1 hp with rfl | hp
        · exact hh (g, .cells (.slice (some ⟨gB, 0, none⟩) d.B.length capB :: vs).toArray 60 (0, 0)) (.head _)
        · rcases List.mem_append.1 hp with hp | hp
          · rw [List.mem_singleton] at hp; rw [hp]; exact hh (gB, .cells cur0 5 (0, 0)) (.tail _ (.head _))
          · exact hh p (.tail _ (List.mem_append_right _ hp))

theorem Finish_spec {d : Dv} {v : Value} {h : List (Nat × Obj)} (ok : DvOk d) (hd : DevH d v h) (hO : Owns w (h ++ F)) (hU : Upd W w ks) (hh : ∀ p ∈ h, p.1 ∈ ks ∨ W.heap.size ≤ p.1) (hand : Int) :
    CallsR Try.prog 13 #[v, .int .i64 hand] w fun r w' => r = .int .i64 (endD d hand (-1)).2 ∧ Upd W w' ks ∧
      ∃ h', DevH (endD d hand (-1)).1 v h' ∧ Owns w' (h' ++ F) ∧ ∀ p ∈ h', p.1 ∈ ks ∨ W.heap.size ≤ p.1 := by
  apply stable_Device_Finish_sound
  exact st_call (end_spec ok hd hO hU hh hand (-1)) fun _ _ h => h
theorem Finish_nil (w : World) (hand : Int) : CallsR Try.prog 13 #[.pointer none, .int .i64 hand] w fun r w' => r = .int .i64 1 ∧ Upd w w' [] := by
  apply stable_Device_Finish_sound
  exact st_call (end_nil w hand (-1)) fun _ _ h => h
def crashD (d : Dv) (hand n : Int) : Dv × Int := endD d hand (if n < 0 then 0 else n)
theorem Crash_spec {d : Dv} {v : Value} {h : List (Nat × Obj)} (ok : DvOk d) (hd : DevH d v h) (hO : Owns w (h ++ F)) (hU : Upd W w ks) (hh : ∀ p ∈ h, p.1 ∈ ks ∨ W.heap.size ≤ p.1) (hand n : Int) :
    CallsR Try.prog 15 #[v, .int .i64 hand, .int .i64 n] w fun r w' => r = .int .i64 (crashD d hand n).2 ∧ Upd W w' ks ∧
      ∃ h', DevH (crashD d hand n).1 v h' ∧ Owns w' (h' ++ F) ∧ ∀ p ∈ h', p.1 ∈ ks ∨ W.heap.size ≤ p.1 := by
  apply stable_Device_Crash_sound
  unfold stable_Device_Crash_x
  simp (disch := first | assumption | omega) only [PX]
  exact st_call (end_spec ok hd hO hU hh hand _) fun _ _ h => h
theorem Crash_nil (w : World) (hand n : Int) : CallsR Try.prog 15 #[.pointer none, .int .i64 hand, .int .i64 n] w fun r w' => r = .int .i64 1 ∧ Upd w w' [] := by
  apply stable_Device_Crash_sound
  unfold stable_Device_Crash_x
  simp (disch := first | assumption | omega) only [PX]
  exact st_call (end_nil w hand _) fun _ _ h => h
end Go.Proofs.Ytdkahgknoohbpaa
