/- StableNews. -/
import Derived.Test.YtdkahgknoohbpaaS8
namespace Go.Proofs.Ytdkahgknoohbpaa
open Go Xf Go.RowKit
set_option linter.unusedVariables false
set_option linter.unusedSimpArgs false
set_option maxRecDepth 100000

variable {w W : World} {ks : List Nat} {F : List (Nat × Obj)}

def refC (s : List UInt8) : List Value :=
  [.string ⟨s.toArray⟩, .bool false, .int .i64 0, .string ⟨#[]⟩, .bool false, .int .i64 0, .string ⟨#[]⟩, .bool false, .int .i64 0, .string ⟨#[]⟩, .bool false, .int .i64 0, .string ⟨#[]⟩,
    .bool false, .int .i64 0, .string ⟨#[]⟩, .bool false, .int .i64 0, .string ⟨#[]⟩, .bool false, .int .i64 0, .string ⟨#[]⟩, .bool false, .int .i64 0, .string ⟨#[]⟩]
theorem refC_len (s : List UInt8) : (refC s).length = 25 := rfl
theorem refC_one (s : List UInt8) : ∀ u ∈ refC s, u.oneCell' = true := by
  intro u hu
  simp only [refC, List.mem_cons, List.not_mem_nil, or_false] at hu
  rcases hu with h | h | h | h | h | h | h | h | h | h | h | h | h | h | h | h | h | h | h | h | h | h | h | h | h <;> subst h <;> rfl
theorem refC_at (s : List UInt8) {i : Nat} (hi : i < 8) : (refC s)[1 + i * 3]? = some (.bool false) ∧ (refC s)[1 + i * 3 + 1]? = some (.int .i64 0) ∧ (refC s)[1 + i * 3 + 2]? = some (.string ⟨#[]⟩) := by
  have : i = 0 ∨ i = 1 ∨ i = 2 ∨ i = 3 ∨ i = 4 ∨ i = 5 ∨ i = 6 ∨ i = 7 := by omega
  rcases this with rfl | rfl | rfl | rfl | rfl | rfl | rfl | rfl <;> exact ⟨rfl, rfl, rfl⟩
theorem build_ref0 (w : World) : (sBuild 51 []).run Try.prog w = .ok (.value (.agg (refC []).toArray)) w := by kernel_rfl
theorem build_ref (s : List UInt8) (w : World) : (sBuild 51 [(0, .string ⟨s.toArray⟩)]).run Try.prog w = .ok (.value (.agg (refC s).toArray)) w := by kernel_rfl

theorem Noughts_spec (hU : Upd W w ks) (hO : Owns w F) {n : Nat} (hn : n ≤ 1000000) : CallsR Try.prog 24 #[.int .i64 (n : Nat)] w fun r w' => r = .string ⟨(List.replicate n (0 : UInt8)).toArray⟩ ∧ Upd W w' ks ∧ Owns w' F := by
  apply flotillaref08_Noughts_sound
  unfold flotillaref08_Noughts_x
  obtain ⟨i, hi, hz, hs, hb⟩ := inf5
  refine st_make u34 hi hz hs hb (by omega) (by omega) hU hO ?_
  intro g w1 hU1 hO1 hg
  have hr : Rd w1 1 (.slice (some ⟨g, 0, none⟩) n n) n (bytesV (List.replicate n 0)) := rd_row (hO1.at_ 0 rfl) (by simp [bytesV]) (Nat.le_refl _) (by
    rw [Nat.mul_one, show (Value.int .u8 0).cells = #[Value.int .u8 0] from rfl, toList_madeCells_one]
    simp [bytesV])
  rw [st_str hr]
  exact ⟨rfl, hU1, hO1.sub (by simp)⟩
theorem refNew_spec (hU : Upd W w ks) (hO : Owns w F) (n : Int) : CallsR Try.prog 19 #[.int .i64 n] w fun r w' => Upd W w' ks ∧ Owns w' F ∧
    ((¬ sizeOk n ∧ r = .tuple #[.agg (refC []).toArray, .bool false]) ∨ (sizeOk n ∧ r = .tuple #[.agg (refC (List.replicate n.toNat 0)).toArray, .bool true])) := by
  apply flotillaref08_New_sound
  unfold flotillaref08_New_x
  refine st_alloc ze51 hU hO ?_
  intro g w1 hU1 hO1 hg
  have fin : ∀ (s : List UInt8) (w1 : World) (b : Bool), Upd W w1 ks → Owns w1 ((g, .cells (refC []).toArray 51 (0, 0)) :: F) → ((¬ sizeOk n ∧ s = [] ∧ b = false) ∨ (sizeOk n ∧ s = List.replicate n.toNat 0 ∧ b = true)) →
      (std Try.prog).step (sStore 51 (.pointer (some ⟨g, 0, none⟩)) (.agg (refC s).toArray)) w1 fun _ w => (std Try.prog).loadR 51 (.pointer (some ⟨g, 0, none⟩)) w fun r_1 => (fun (r : Value) (w' : World) => Upd W w' ks ∧ Owns w' F ∧
      ((¬ sizeOk n ∧ r = .tuple #[.agg (refC []).toArray, .bool false]) ∨ (sizeOk n ∧ r = .tuple #[.agg (refC (List.replicate n.toNat 0)).toArray, .bool true]))) (Value.tuple #[r_1, .bool b]) w := by
    intro s w1 b hU1 hO1 hc
    refine st_storeN (vs := refC s) (by rw [sz51]; rfl) hU1 hO1 0 rfl (Nat.le_refl _) (refC_one s) (.inr hg) ?_
    intro w2 hU2 hO2
    have hO2' : Owns w2 ((g, .cells (refC s).toArray 51 (0, 0)) :: F) := hO2
    refine st_loadR (run_loadVarN (cs := refC s) ag51 (by rw [sz51]; rfl) (cells_read (hO2'.at_ 0 rfl))) ?_
    refine ⟨hU2, hO2'.sub (by simp), ?_⟩
    rcases hc with ⟨h1, rfl, rfl⟩ | ⟨h1, rfl, rfl⟩
    · exact .inl ⟨h1, rfl⟩
    · exact .inr ⟨h1, rfl⟩
  have hO1' : Owns w1 ((g, .cells (refC []).toArray 51 (0, 0)) :: F) := hO1
  simp (disch := first | assumption | omega) only [PX, BX, flotillaref08_New_k1, step_run (build_ref0 _)]
  refine ⟨fun h => fin [] w1 false hU1 hO1' (.inl ⟨fun ho => by unfold sizeOk at ho; omega, rfl, rfl⟩), fun h0 => ⟨fun h => fin [] w1 false hU1 hO1' (.inl ⟨fun ho => by unfold sizeOk at ho; omega, rfl, rfl⟩), fun h1 => ⟨fun h => fin [] w1 false hU1 hO1' (.inl ⟨fun ho => h (by rw [tmod64 (by omega)]; exact ho.2.2), rfl, rfl⟩), fun h2 => ?_⟩⟩⟩
  have hok : sizeOk n := ⟨by omega, by omega, by rw [← tmod64 (by omega)]; exact Decidable.not_not.1 h2⟩
  obtain ⟨k, rfl⟩ : ∃ k : Nat, n = k := ⟨n.toNat, by omega⟩
  refine st_call (Noughts_spec hU1 hO1' (by omega)) ?_
  rintro _ w2 ⟨rfl, hU2, hO2⟩
  rw [step_run (build_ref _ _)]
  exact fin (List.replicate k 0) w2 true hU2 hO2 (.inr ⟨hok, by rw [Int.toNat_natCast], rfl⟩)

theorem fly_new (n : Nat) (i : Int) : flyD (newD n) i = (0, 0, false) := by
  unfold flyD
  split
  · have : (newD n).up.getD i.toNat none = none := by
      unfold newD
      rw [List.getD_eq_getElem?_getD, List.getElem?_replicate]
      split <;> rfl
    rw [this]
  · rfl
theorem build_w0 (w : World) : (sBuild 48 []).run Try.prog w = .ok (.value (.agg #[.bool false, .int .i64 0, .string ⟨#[]⟩])) w := by kernel_rfl

theorem alike_spec {n : Nat} {v : Value} {h : List (Nat × Obj)} (hn : n ≤ 65536) (ok : DvOk (newD n)) (hd : DevH (newD n) v h) (hU : Upd W w []) (hO : Owns w (h ++ F)) :
    CallsR Try.prog 20 #[v, .agg (refC (List.replicate n 0)).toArray] w fun r w' => r = .bool true ∧ Upd W w' [] ∧ Owns w' (h ++ F) := by
  apply flotillalaw08_alike_sound
  unfold flotillalaw08_alike_x
  have hlen : (newD n).B.length = n := by simp [newD]
  refine st_box hU hO ?_
  intro g3 w1 hU1 hO1 hg3
  refine st_call (Size_spec hd (fun p hp => .tail _ (List.mem_append_left _ hp)) hO1) ?_
  rintro _ u1 ⟨rfl, hu1⟩
  subst u1
  rw [hlen]
  refine st_call (Read_spec hd ok.most (fun p hp => .tail _ (List.mem_append_left _ hp)) hO1 hU1 0 n) ?_
  rintro _ w2 ⟨hU2, ⟨hn, _⟩ | ⟨_, vr, hr, rfl, hrr, hO2, hhr⟩⟩
  · unfold readOut at hn; omega
  rw [Int.toNat_zero, List.drop_zero, Int.toNat_natCast, List.take_of_length_le (by omega), show (newD n).B = List.replicate n 0 from rfl] at hrr
  have hS2 := SU.drew hU2 hO2
  generalize hG : hr ++ ((g3, Obj.cells (Value.agg (refC (List.replicate n 0)).toArray).cells 51 (0, 0)) :: (h ++ F)) = G at *
  have hm3 : (g3, Obj.cells (refC (List.replicate n 0)).toArray 51 (0, 0)) ∈ G := by rw [← hG]; exact List.mem_append_right _ (.head _)
  have hmh : ∀ p ∈ h ++ F, p ∈ G := fun p hp => by rw [← hG]; exact List.mem_append_right _ (.tail _ hp)
  have hsub : List.Sublist (h ++ F) G := by rw [← hG]; exact (List.sublist_cons_self _ _).trans (List.sublist_append_right _ _)
  have hmr : ∀ p ∈ hr, p ∈ G := fun p hp => by rw [← hG]; exact List.mem_append_left _ hp
  have hne : ∃ w', SU W G w' := ⟨_, hS2⟩
  have q0 : ∀ w', SU W G w' → w'.cell? ⟨g3, 0, none⟩ = some (.string ⟨(List.replicate n (0 : UInt8)).toArray⟩) := fun w' hs => cell_at (hs.2.2 _ hm3)
  have qr : ∀ w', SU W G w' → Rd w' 1 vr n (bytesV (List.replicate n 0)) := fun w' hs => hrr.rdIn fun p hp => hs.2.2 p (hmr p hp)
  simp (disch := first | assumption | omega) only [PX]
  refine st_draw (SU W G) hS2 ?_
  simp (disch := first | assumption | omega) only [SX, SLX, BX, add_mk, Nat.zero_add]
  refine ⟨fun h => absurd rfl h, fun _ => ?_⟩
  refine st_call (Size_spec hd (fun p hp => hmh p (List.mem_append_left _ hp)) hS2.2) ?_
  rintro _ u1 ⟨rfl, hu1⟩
  subst u1
  refine st_same hS2 ?_
  simp (disch := first | assumption | omega) only [SX, SLX, BX, add_mk, Nat.zero_add, sst_str hne qr, hlen, size_mk, List.length_replicate]
  refine ⟨fun h => absurd rfl h, fun _ => ?_⟩
  refine ⟨fun _ => ?_, fun h => absurd trivial h⟩
  refine st_loop (fun us w' => ∃ i : Int, us.getD 0 undef = .int .i64 i ∧ -1 ≤ i ∧ i ≤ 9 ∧ SU W G w') (fun us _ => (9 - (match us.getD 0 undef with | .int _ m => m | _ => 0)).toNat) ⟨-1, rfl, by omega, by omega, hS2⟩ ?_
  rintro dv us w3 - ⟨i, ei, hi1, hi2, hS3⟩
  simp (disch := first | assumption | omega) only [ei, PX, BX]
  refine ⟨fun hle => ?_, fun hgt => ?_⟩
  · refine st_call (Flying_spec ok hd (fun p hp => hmh p (List.mem_append_left _ hp)) hS3.2 hS3.1 i) ?_
    rintro _ w4 ⟨rfl, hU4, hO4⟩
    rw [fly_new]
    simp (disch := first | assumption | omega) only [flyV, PX, step_run (build_w0 _)]
    refine st_alloc ze48 hU4 hO4 ?_
    intro g w5 hU5 hO5 hg
    have k3 : ∀ w6, Upd W w6 [] → Owns w6 ((g, .cells #[.bool false, .int .i64 0, .string ⟨#[]⟩] 48 (0, 0)) :: G) →
        flotillalaw08_alike_k3 (std Try.prog) us (fun us' w' => (∃ i : Int, us'.getD 0 undef = .int .i64 i ∧ -1 ≤ i ∧ i ≤ 9 ∧ SU W G w') ∧ (9 - (match us'.getD 0 undef with | .int _ m => m | _ => 0)).toNat < (9 - i).toNat) (.int .i64 0) (.int .i64 0) (.bool false) (.pointer (some ⟨g, 0, none⟩)) w6
          fun r w' => r = .bool true ∧ Upd W w' [] ∧ Owns w' (h ++ F) := by
      intro w6 hU6 hO6
      unfold flotillalaw08_alike_k3
      have c0 : w6.cell? ⟨g, 0, none⟩ = some (.bool false) := cell_at (hO6.at_ 0 rfl)
      have c1 : w6.cell? ⟨g, 1, none⟩ = some (.int .i64 0) := cell_at (hO6.at_ 0 rfl)
      have c2 : w6.cell? ⟨g, 2, none⟩ = some (.string ⟨#[]⟩) := cell_at (hO6.at_ 0 rfl)
      simp (disch := first | assumption | omega) only [ei, PX, BX, LX, add_mk, Nat.zero_add, beq_self_eq_true]
      refine ⟨fun h => absurd rfl h, fun _ => ⟨fun h => absurd rfl h, fun _ => ?_⟩⟩
      rw [w64 (by omega) (by omega)]
      refine ⟨⟨i + 1, rfl, by omega, by omega, hU6, hO6.sub (by simp)⟩, ?_⟩
      show (9 - (i + 1)).toNat < (9 - i).toNat
      omega
    refine st_storeN (vs := [.bool false, .int .i64 0, .string ⟨#[]⟩]) (by rw [sz48]; rfl) hU5 hO5 0 rfl (Nat.le_refl _) (by decide) (.inr hg) ?_
    intro w6 hU6 hO6
    have hO6' : Owns w6 ((g, .cells #[.bool false, .int .i64 0, .string ⟨#[]⟩] 48 (0, 0)) :: G) := hO6
    refine ⟨fun h0 => ⟨fun h8 => ?_, fun _ => k3 w6 hU6 hO6'⟩, fun _ => k3 w6 hU6 hO6'⟩
    obtain ⟨k, rfl⟩ : ∃ k : Nat, i = k := ⟨i.toNat, by omega⟩
    have hk : k < 8 := by omega
    obtain ⟨x0, x1, x2⟩ := refC_at (List.replicate n 0) hk
    have hc := hO6'.2 _ (.tail _ hm3)
    simp (disch := first | assumption | omega) only [PX, add_mk, Nat.zero_add]
    rw [step_run (run_sLoad (run_loadVarN (cs := [.bool false, .int .i64 0, .string ⟨#[]⟩]) ag48 (by rw [sz48]; rfl) fun j v hj => by
      rw [add_mk, cell_at hc, List.getElem?_toArray]
      match j, hj with
      | 0, hj => simp at hj; subst hj; exact x0
      | 1, hj => simp at hj; subst hj; exact x1
      | 2, hj => simp at hj; subst hj; exact x2))]
    refine st_storeN (vs := [.bool false, .int .i64 0, .string ⟨#[]⟩]) (by rw [sz48]; rfl) hU6 hO6' 0 rfl (Nat.le_refl _) (by decide) (.inr hg) ?_
    intro w7 hU7 hO7
    exact k3 w7 hU7 hO7
  · unfold flotillalaw08_alike_k2
    exact ⟨rfl, hS3.1, hS3.2.sub hsub⟩

theorem StableNews_spec {size : Int} : CallsR Try.prog 7 #[.int .i64 size] W fun r w' => r = .bool true ∧ Upd W w' [] := by
  apply flotillalaw08_StableNews_sound
  unfold flotillalaw08_StableNews_x
  refine st_call (New_spec (F := []) (Upd.refl W []) (Owns.nil W) size) ?_
  rintro _ w1 ⟨hU1, ⟨hn, rfl, hO1⟩ | ⟨hsz, v, h, rfl, hd, hO1, hh⟩⟩
  · simp (disch := first | assumption | omega) only [PX]
    refine st_call (refNew_spec hU1 hO1 size) ?_
    rintro _ w2 ⟨hU2, hO2, ⟨_, rfl⟩ | ⟨hc, _⟩⟩
    · simp (disch := first | assumption | omega) only [PX]
      refine st_alloc ze51 hU2 hO2 ?_
      intro g w3 hU3 hO3 hg
      refine st_storeN (vs := refC []) (by rw [sz51]; rfl) hU3 hO3 0 rfl (Nat.le_refl _) (refC_one _) (.inr hg) ?_
      intro w4 hU4 hO4
      simp (disch := first | assumption | omega) only [PX, BX]
      exact ⟨fun _ => lives_end hU4, fun h => absurd (by trivial) h⟩
    · exact absurd hc hn
  · obtain ⟨n, rfl⟩ : ∃ n : Nat, size = n := ⟨size.toNat, by unfold sizeOk at hsz; omega⟩
    rw [Int.toNat_natCast] at hd
    have hn : n ≤ 65536 := by unfold sizeOk at hsz; omega
    have ok : DvOk (newD n) := DvOk.new (by unfold sizeOk at hsz; omega) hn
    obtain ⟨g0, _, _, rfl, _⟩ := hd.cells (fun p hp => List.mem_append_left _ hp) hO1
    simp (disch := first | assumption | omega) only [PX]
    refine st_call (refNew_spec hU1 hO1 n) ?_
    rintro _ w2 ⟨hU2, hO2, ⟨hc, rfl⟩ | ⟨_, rfl⟩⟩
    · exact absurd hsz hc
    simp (disch := first | assumption | omega) only [PX]
    refine st_alloc ze51 hU2 hO2 ?_
    intro g w3 hU3 hO3 hg
    rw [Int.toNat_natCast]
    refine st_storeN (vs := refC (List.replicate n 0)) (by rw [sz51]; rfl) hU3 hO3 0 rfl (Nat.le_refl _) (refC_one _) (.inr hg) ?_
    intro w4 hU4 hO4
    have hO4' : Owns w4 ((g, .cells (refC (List.replicate n 0)).toArray 51 (0, 0)) :: (h ++ [])) := hO4
    simp (disch := first | assumption | omega) only [PX, BX]
    refine st_call (Read_nil w4 0 0) ?_
    rintro _ u1 ⟨rfl, hu1⟩
    subst u1
    simp (disch := first | assumption | omega) only [PX, BX]
    refine st_call (Flying_nil w4 0) ?_
    rintro _ u1 ⟨rfl, hu1⟩
    subst u1
    simp (disch := first | assumption | omega) only [PX, BX]
    refine ⟨fun _ => ?_, fun h => absurd (by trivial) h⟩
    rw [step_run (run_sLoad (run_loadVarN (cs := refC (List.replicate n 0)) ag51 (by rw [sz51]; rfl) (cells_read (hO4'.at_ 0 rfl))))]
    refine st_call (alike_spec (F := (g, .cells (refC (List.replicate n 0)).toArray 51 (0, 0)) :: []) hn ok hd hU4 (hO4'.perm (List.perm_middle.symm))) ?_
    rintro _ w5 ⟨rfl, hU5, hO5⟩
    simp (disch := first | assumption | omega) only [PX, BX]
    refine ⟨fun _ => ⟨fun _ => ?_, fun h => absurd (by trivial) h⟩, fun h => absurd (by trivial) h⟩
    refine st_call (Size_nil w5) ?_
    rintro _ u1 ⟨rfl, hu1⟩
    subst u1
    simp (disch := first | assumption | omega) only [PX, BX]
    refine ⟨fun _ => ?_, fun h => absurd (by trivial) h⟩
    refine st_call (filled_spec hO5 hU5 64 (by decide) 1) ?_
    rintro vf w6 ⟨h6, hr6, hO6, hU6, hh6⟩
    refine st_call (Start_nil w6 0 0 vf) ?_
    rintro _ u1 ⟨rfl, hu1⟩
    subst u1
    simp (disch := first | assumption | omega) only [PX, BX]
    refine ⟨fun _ => ?_, fun h => absurd (by trivial) h⟩
    refine st_call (Finish_nil w6 0) ?_
    rintro _ w7 ⟨rfl, hU7⟩
    simp (disch := first | assumption | omega) only [PX, BX]
    refine ⟨fun _ => ?_, fun h => absurd (by trivial) h⟩
    refine st_call (Crash_nil w7 0 1) ?_
    rintro _ w8 ⟨rfl, hU8⟩
    simp (disch := first | assumption | omega) only [PX, BX]
    refine ⟨fun _ => ?_, fun h => absurd (by trivial) h⟩
    refine st_call (Trim_nil w8 0) ?_
    rintro _ u1 ⟨rfl, hu1⟩
    subst u1
    simp (disch := first | assumption | omega) only [PX, BX]
    refine ⟨fun _ => ?_, fun h => absurd (by trivial) h⟩
    refine st_call (Clone_nil w8) ?_
    rintro _ u1 ⟨rfl, hu1⟩
    subst u1
    simp (disch := first | assumption | omega) only [PX, BX]
    exact lives_end ((hU6.trans hU7).trans hU8)
end Go.Proofs.Ytdkahgknoohbpaa
