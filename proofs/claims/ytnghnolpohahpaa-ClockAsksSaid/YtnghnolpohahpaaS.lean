/- What the functions of the layer clock compute: checks. -/
import Derived.Test.YtnghnolpohahpaaM
namespace Go.Proofs.Ytnghnolpohahpaa
open Go Xf Go.RowKit
set_option linter.unusedVariables false
set_option linter.unusedSimpArgs false
set_option maxRecDepth 100000

def seen (fs : List Fr) (i : Nat) (p : Nat) : Bool := (fs.take i).any fun f => f.page == (p : Int)
def seenV (fs : List Fr) (i : Nat) : List Value := (List.range 16).map fun p => .bool (seen fs i p)
theorem seenV_len (fs : List Fr) (i : Nat) : (seenV fs i).length = 16 := by simp [seenV]
theorem seen_succ {fs : List Fr} {i : Nat} (hi : i < fs.length) (p : Nat) : seen fs (i + 1) p = (seen fs i p || (fs[i].page == (p : Int))) := by
  unfold seen; rw [List.take_succ_eq_append_getElem hi, List.any_append]; simp
theorem seen_iff {fs : List Fr} {i : Nat} (hi : i ≤ fs.length) (p : Nat) : seen fs i p = true ↔ ∃ (k : Nat) (hk : k < i), fs[k].page = p := by
  unfold seen
  rw [List.any_eq_true]
  constructor
  · rintro ⟨f, hf, he⟩
    obtain ⟨k, hk⟩ := List.getElem?_of_mem hf
    rw [List.getElem?_take] at hk
    split at hk
    · rename_i hlt
      refine ⟨k, hlt, ?_⟩
      rw [List.getElem?_eq_getElem (by omega)] at hk
      injection hk with hk
      rw [hk]; exact eq_of_beq he
    · cases hk
  · rintro ⟨k, hk, he⟩
    refine ⟨fs[k], ?_, by rw [he]; exact beq_self_eq_true _⟩
    exact List.mem_of_getElem? (i := k) (by rw [List.getElem?_take, if_pos hk, List.getElem?_eq_getElem (by omega)])

def CheckI (w : World) (fs : List Fr) (g3 : Nat) (vs : List Value) (w' : World) : Prop :=
  ∃ i : Nat, i ≤ fs.length ∧ vs.getD 0 undef = .int .i64 i ∧ Upd w w' [] ∧ Owns w' [(g3, .cells (seenV fs i).toArray 50 (0, 0))] ∧ ∀ (j : Nat) (hj : j < fs.length), j < i → okF fs[j] ∧ ∀ (k : Nat) (hk : k < j), 0 ≤ fs[j].page → fs[k].page ≠ fs[j].page

theorem Check_spec (w : World) (v : Value) (fs : List Fr) (hand : Int) (hr : RingAt w v fs hand) :
    CallsR Try.prog 11 #[v] w fun r w' => r = .int .i64 (if May fs hand then 0 else 1 : Nat) ∧ Upd w w' [] := by
  apply clock_Check_sound
  unfold clock_Check_x
  obtain ⟨A, c, rfl, hm, hrd⟩ := hr
  refine st_box (Upd.refl w []) (Owns.nil w) ?_
  intro g w1 hU1 hO1 hg
  have bad : ¬ May fs hand → ∀ w', Upd w w' [] → (Value.int .i64 1 = .int .i64 ((if May fs hand then 0 else 1 : Nat) : Int) ∧ Upd w w' []) := by
    intro h w' hU'
    rw [if_neg h]; exact ⟨rfl, hU'⟩
  have c0 : w1.cell? ⟨g, 0, none⟩ = some (.slice A fs.length c) := cell_at (hO1.at_ 0 rfl)
  have c1 : w1.cell? ⟨g, 1, none⟩ = some (.int .i64 hand) := cell_at (hO1.at_ 0 rfl)
  simp (disch := first | assumption | omega) only [PX, BX, LX, add_mk, Nat.reduceAdd, clock_Check_k1]
  refine ⟨fun h => bad (fun hm => by obtain ⟨h1, h2, h3, h4, _⟩ := hm; omega) _ hU1, fun hn1 => ⟨fun h => bad (fun hm => by obtain ⟨h1, h2, h3, h4, _⟩ := hm; omega) _ hU1, fun hn16 => ⟨fun h => bad (fun hm => by obtain ⟨h1, h2, h3, h4, _⟩ := hm; omega) _ hU1, fun hh0 => ⟨fun h => bad (fun hm => by obtain ⟨h1, h2, h3, h4, _⟩ := hm; omega) _ hU1, fun hhn => ?_⟩⟩⟩⟩
  clear c0 c1
  rw [step_run (show (sBuild 50 []).run Try.prog w1 = .ok (.value (.agg (seenV fs 0).toArray)) w1 by kernel_rfl)]
  refine st_alloc ze50 hU1 hO1 ?_
  intro g3 w3 hU3 hO3 hg3
  refine st_storeN (vs := seenV fs 0) (by rw [sz50, seenV_len]) hU3 hO3 0 rfl (by simp [Value.cells, seenV_len]) (by intro u hu; obtain ⟨p, _, rfl⟩ := List.mem_map.1 hu; rfl) (.inr hg3) ?_
  intro w4 hU4 hO4
  have hO4 : Owns w4 [(g3, .cells (seenV fs 0).toArray 50 (0, 0)), (g, .cells #[.slice A fs.length c, .int .i64 hand] 24 (0, 0))] := hO4
  clear hU1 hO1 hU3 hO3
  have c0 : w4.cell? ⟨g, 0, none⟩ = some (.slice A fs.length c) := cell_at (hO4.at_ 1 rfl)
  simp (disch := first | assumption | omega) only [PX, BX, LX, add_mk, Nat.reduceAdd]
  clear c0
  refine st_loop (CheckI w fs g3) (fun vs _ => fs.length - (intOf (vs.getD 0 undef)).toNat) ⟨0, by omega, rfl, hU4, hO4.sub (by simp), fun j hj h => by omega⟩ ?_
  clear hU4 hO4
  rintro dv vs w5 - ⟨i, hi, e0, hU5, hO5, hall⟩
  simp (disch := omega) only [e0, PX, BX]
  refine ⟨fun hlt => ?_, fun hge => ?_⟩
  · have hlt' : i < fs.length := by omega
    obtain ⟨a, rfl, f0, f1, f2⟩ := frame_run hrd hU5 hlt'
    rw [step_run (run_idxS u22 sz31 (by omega) hlt)]
    refine ld_frame f0 f1 f2 ?_
    clear f0 f1 f2
    refine st_alloc ze31 hU5 hO5 ?_
    intro g6 w6 hU6 hO6 hg6
    refine st_storeN (vs := frV fs[i]) (by rw [sz31]; rfl) hU6 hO6 0 rfl (by simp [Value.cells, frV]) (frV_one _) (.inr hg6) ?_
    intro w7 hU7 hO7
    have hO7 : Owns w7 [(g6, .cells #[.int .i64 fs[i].page, .bool fs[i].used, .int .i64 fs[i].pins] 31 (0, 0)), (g3, .cells (seenV fs i).toArray 50 (0, 0))] := hO7
    clear hU5 hO5 hU6 hO6
    have c0 : w7.cell? ⟨g6, 0, none⟩ = some (.int .i64 fs[i].page) := cell_at (hO7.at_ 0 rfl)
    have c1 : w7.cell? ⟨g6, 1, none⟩ = some (.bool fs[i].used) := cell_at (hO7.at_ 0 rfl)
    have c2 : w7.cell? ⟨g6, 2, none⟩ = some (.int .i64 fs[i].pins) := cell_at (hO7.at_ 0 rfl)
    have badF : ¬ okF fs[i] → (Value.int .i64 1 = .int .i64 ((if May fs hand then 0 else 1 : Nat) : Int) ∧ Upd w w7 []) := fun h => bad (fun hm => h (hm.2.2.2.2 i hlt').1) w7 hU7
    simp (disch := first | assumption | omega) only [PX, BX, LX, add_mk, Nat.reduceAdd, clock_Check_k5]
    have fin3 : ∀ w8, Upd w w8 [] → Owns w8 [(g3, .cells (seenV fs (i + 1)).toArray 50 (0, 0))] → okF fs[i] → (∀ (k : Nat) (hk : k < i), 0 ≤ fs[i].page → fs[k].page ≠ fs[i].page) →
        clock_Check_k3 (std Try.prog) vs (fun vs' w' => CheckI w fs g3 vs' w' ∧ fs.length - (intOf (vs'.getD 0 undef)).toNat < fs.length - (intOf (Value.int IntKind.i64 (i : Int))).toNat) w8 fun r w' => r = .int .i64 (if May fs hand then 0 else 1 : Nat) ∧ Upd w w' [] := by
      intro w8 hU8 hO8 hok hd
      unfold clock_Check_k3
      simp (disch := omega) only [e0, PX, w64]
      refine ⟨⟨i + 1, by omega, rfl, hU8, hO8, fun j hj hji => ?_⟩, ?_⟩
      · by_cases h : j < i
        · exact hall j hj h
        · obtain rfl : j = i := by omega
          exact ⟨hok, hd⟩
      · simp only [List.getD_cons_zero, intOf]; omega
    have fin4 : okF fs[i] → (∀ (k : Nat) (hk : k < i), 0 ≤ fs[i].page → fs[k].page ≠ fs[i].page) →
        clock_Check_k4 (std Try.prog) (.pointer (some ⟨g3, 0, none⟩)) vs (fun vs' w' => CheckI w fs g3 vs' w' ∧ fs.length - (intOf (vs'.getD 0 undef)).toNat < fs.length - (intOf (Value.int IntKind.i64 (i : Int))).toNat) (.pointer (some ⟨g6, 0, none⟩)) w7 fun r w' => r = .int .i64 (if May fs hand then 0 else 1 : Nat) ∧ Upd w w' [] := by
      intro hok hd
      have hok' := hok
      obtain ⟨o1, o2, o3, o4, o5⟩ := hok'
      unfold clock_Check_k4
      simp (disch := first | assumption | omega) only [PX, BX, LX, add_mk, Nat.reduceAdd]
      refine ⟨fun h0 => ?_, fun h0 => ?_⟩
      · obtain ⟨p, hp⟩ : ∃ p : Nat, fs[i].page = p := ⟨fs[i].page.toNat, by omega⟩
        rw [hp]
        rw [step_run (run_idxA u50 sz4 (by omega) (by omega)), add_mk]
        refine st_storeB sz4 rfl hU7 hO7 1 rfl (by simp [seenV_len]; omega) (.inr (Nat.zero_le _)) (.inr hg3) ?_
        intro w8 hU8 hO8
        refine fin3 w8 hU8 ?_ hok hd
        have hO8 := hO8.sub (h' := [(g3, .cells ((seenV fs i).toArray.setIfInBounds (0 + (p : Int).toNat * 1) (.bool true)) 50 (0, 0))]) (by simp)
        have e : (seenV fs i).toArray.setIfInBounds (0 + (p : Int).toNat * 1) (.bool true) = (seenV fs (i + 1)).toArray := by
          rw [show 0 + (p : Int).toNat * 1 = p by omega, List.setIfInBounds_toArray]
          congr 1
          apply List.ext_getElem?
          intro j
          by_cases hj : p = j
          · subst hj
            rw [List.getElem?_set_self (by rw [seenV_len]; omega)]
            simp [seenV, show p < 16 by omega, seen_succ hlt', hp]
          · rw [List.getElem?_set_ne hj]
            simp only [seenV, List.getElem?_map]
            cases hjr : (List.range 16)[j]? with
            | none => rfl
            | some q =>
              have hq : q = j := by rw [List.getElem?_eq_some_iff] at hjr; obtain ⟨_, h⟩ := hjr; simpa using h.symm
              subst hq
              simp only [Option.map_some, seen_succ hlt', hp]
              have : ((p : Int) == (q : Int)) = false := by rw [beq_eq_false_iff_ne]; omega
              rw [this, Bool.or_false]
        rw [e] at hO8
        exact hO8
      · refine fin3 w7 hU7 ?_ hok hd
        have e : seenV fs (i + 1) = seenV fs i := by
          unfold seenV
          apply List.map_congr_left
          intro p hp
          rw [seen_succ hlt']
          have : (fs[i].page == (p : Int)) = false := by rw [beq_eq_false_iff_ne]; omega
          rw [this, Bool.or_false]
        rw [e]
        exact hO7.sub (by simp)
    have finP : okF fs[i] → (0 ≤ fs[i].page → (std Try.prog).step (sIndexAddr 50 (.pointer (some ⟨g3, 0, none⟩)) (.int .i64 fs[i].page)) w7 fun v76_1 w_1 => (std Try.prog).step (sLoad 4 v76_1) w_1 fun v77_1 w_2 =>
        clock_Check_k6 (std Try.prog) (.pointer (some ⟨g3, 0, none⟩)) vs (fun vs' w' => CheckI w fs g3 vs' w' ∧ fs.length - (intOf (vs'.getD 0 undef)).toNat < fs.length - (intOf (Value.int IntKind.i64 (i : Int))).toNat) (.pointer (some ⟨g6, 0, none⟩)) v77_1 w_2 fun r w' => r = .int .i64 (if May fs hand then 0 else 1 : Nat) ∧ Upd w w' []) := by
      intro hok h0
      have hok' := hok
      obtain ⟨o1, o2, o3, o4, o5⟩ := hok'
      obtain ⟨p, hp⟩ : ∃ p : Nat, fs[i].page = p := ⟨fs[i].page.toNat, by omega⟩
      rw [hp, step_run (run_idxA u50 sz4 (by omega) (by omega)), add_mk]
      refine st_loadB ag4 hO7 1 rfl (v := .bool (seen fs i p)) ?_ ?_
      · rw [show 0 + (p : Int).toNat * 1 = p by omega]
        simp [seenV, show p < 16 by omega]
      · unfold clock_Check_k6
        rw [bool_var]
        refine ⟨fun hs => ?_, fun hs => fin4 hok fun k hk _ he => ?_⟩
        · obtain ⟨k, hk, he⟩ := (seen_iff (by omega) p).1 hs
          exact bad (fun hm => (hm.2.2.2.2 i hlt').2 k hk h0 (by rw [he, hp])) w7 hU7
        · have := (seen_iff (fs := fs) (i := i) (by omega) p).2 ⟨k, hk, by rw [he, hp]⟩
          rw [this] at hs; cases hs
    have fin7 : okF fs[i] → (¬ 0 ≤ fs[i].page → clock_Check_k7 (std Try.prog) (.pointer (some ⟨g3, 0, none⟩)) vs (fun vs' w' => CheckI w fs g3 vs' w' ∧ fs.length - (intOf (vs'.getD 0 undef)).toNat < fs.length - (intOf (Value.int IntKind.i64 (i : Int))).toNat) (.pointer (some ⟨g6, 0, none⟩)) w7 fun r w' => r = .int .i64 (if May fs hand then 0 else 1 : Nat) ∧ Upd w w' []) := by
      intro hok h0
      unfold clock_Check_k7
      exact fin4 hok fun k hk h => absurd h h0
    rw [bool_var]
    refine ⟨fun h => badF fun ho => by obtain ⟨o1, o2, o3, o4, o5⟩ := ho; omega, fun h1 => ⟨fun h => badF fun ho => by obtain ⟨o1, o2, o3, o4, o5⟩ := ho; omega, fun h2 => ⟨fun h => badF fun ho => by obtain ⟨o1, o2, o3, o4, o5⟩ := ho; omega, fun h3 => ⟨fun h => badF fun ho => by obtain ⟨o1, o2, o3, o4, o5⟩ := ho; omega, fun h4 => ⟨fun h5 => ⟨fun hu => badF fun ho => ?_, fun hu => ⟨fun h => badF fun ho => ?_, fun h6 => ?_⟩⟩, fun h5 => ?_⟩⟩⟩⟩⟩
    · obtain ⟨o1, o2, o3, o4, o5⟩ := ho
      rw [(o5 h5).1] at hu; cases hu
    · obtain ⟨o1, o2, o3, o4, o5⟩ := ho
      have := (o5 h5).2; omega
    · have hok : okF fs[i] := ⟨by omega, by omega, by omega, by omega, fun _ => ⟨hu, by omega⟩⟩
      exact ⟨finP hok, fin7 hok⟩
    · have hok : okF fs[i] := ⟨by omega, by omega, by omega, by omega, fun h => absurd h h5⟩
      exact ⟨finP hok, fin7 hok⟩
  · obtain rfl : i = fs.length := by omega
    unfold clock_Check_k2
    rw [if_pos ⟨by omega, by omega, by omega, by omega, fun j hj => hall j hj hj⟩]
    exact ⟨rfl, hU5⟩
end Go.Proofs.Ytnghnolpohahpaa
