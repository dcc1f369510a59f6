/- WalNils: the whole. -/
import Derived.Test.YtplpjikcgheiiaaWalNA
namespace Go.Proofs.Ytplpjikcgheiiaa.Wal
open Go Go.Proofs.Ytplpjikcgheiiaa Go.Proofs.Ytplpjikcgheiiaa.Rec Xf Go.RowKit Go.ChangeShapes Go.WideShapes Go.Deep
set_option linter.unusedVariables false
set_option linter.unusedSimpArgs false
set_option maxRecDepth 100000

theorem nils_lives {W w : World} (hU : Upd W w []) : (std Try.prog).calls 9 #[] w fun v w' => v = .bool true ∧ Upd W w' [] := st_call (lives_spec hU) fun _ _ h => h
theorem nils_end {W w : World} (hand : Int) (hU : Upd W w []) : (std Try.prog).calls 8 #[.int .i64 64] w fun v109_1 w =>
  (std Try.prog).step (sExtract v109_1 0) w fun v110_1 w =>
  (std Try.prog).step (sExtract v109_1 1) w fun v111_1 w =>
  (std Try.prog).step (sBin .eql 23 (.tmp 112) (.const (.pointer none)) v110_1 (.pointer none)) w fun v113_1 w =>
  (std Try.prog).bool v113_1
  ((fun (u : Value) (w' : World) => u = .bool true ∧ Upd W w' []) (.bool false) w)
  ((std Try.prog).step (sMakeSlice 51 (.int .i64 64) (.int .i64 64)) w fun v116_1 w =>
  (std Try.prog).calls 19 #[v110_1, .int .i64 hand, (.int .i64 0), v116_1] w fun v117_1 w =>
  (std Try.prog).calls 10 #[v110_1, .int .i64 hand] w fun v121_1 w =>
  (std Try.prog).step (sExtract v121_1 0) w fun v122_1 w =>
  (std Try.prog).step (sExtract v121_1 1) w fun v123_1 w =>
  (std Try.prog).step (sBin .eql 28 (.tmp 124) (.const (.pointer none)) v122_1 (.pointer none)) w fun v125_1 w =>
  (std Try.prog).bool v125_1
  ((std Try.prog).step (sBin .eql 24 (.tmp 127) (.const (.int .i64 0)) v117_1 (.int .i64 0)) w fun v128_1 w =>
  (std Try.prog).bool v128_1
  ((std Try.prog).step (sBin .eql 24 (.tmp 130) (.const (.int .i64 10)) v123_1 (.int .i64 10)) w fun v131_1 w =>
  (std Try.prog).bool v131_1
  ((std Try.prog).calls 9 #[] w fun v143_1 w =>
  flotillalaw09_WalNils_k5 (std Try.prog) v143_1 w fun u w' => u = .bool true ∧ Upd W w' [])
  ((std Try.prog).step (sBin .eql 24 (.tmp 134) (.const (.int .i64 1)) v117_1 (.int .i64 1)) w fun v135_1 w =>
  (std Try.prog).bool v135_1
  ((std Try.prog).step (sBin .eql 24 (.tmp 137) (.const (.int .i64 1)) v123_1 (.int .i64 1)) w fun v138_1 w =>
  (std Try.prog).bool v138_1
  ((std Try.prog).calls 9 #[] w fun v143_2 w =>
  flotillalaw09_WalNils_k5 (std Try.prog) v143_2 w fun u w' => u = .bool true ∧ Upd W w' [])
  (flotillalaw09_WalNils_k6 (std Try.prog) w fun u w' => u = .bool true ∧ Upd W w' []))
  (flotillalaw09_WalNils_k6 (std Try.prog) w fun u w' => u = .bool true ∧ Upd W w' [])))
  ((std Try.prog).step (sBin .eql 24 (.tmp 134) (.const (.int .i64 1)) v117_1 (.int .i64 1)) w fun v135_2 w =>
  (std Try.prog).bool v135_2
  ((std Try.prog).step (sBin .eql 24 (.tmp 137) (.const (.int .i64 1)) v123_1 (.int .i64 1)) w fun v138_2 w =>
  (std Try.prog).bool v138_2
  ((std Try.prog).calls 9 #[] w fun v143_3 w =>
  flotillalaw09_WalNils_k5 (std Try.prog) v143_3 w fun u w' => u = .bool true ∧ Upd W w' [])
  (flotillalaw09_WalNils_k6 (std Try.prog) w fun u w' => u = .bool true ∧ Upd W w' []))
  (flotillalaw09_WalNils_k6 (std Try.prog) w fun u w' => u = .bool true ∧ Upd W w' [])))
  (flotillalaw09_WalNils_k6 (std Try.prog) w fun u w' => u = .bool true ∧ Upd W w' [])) := by
  unfold flotillalaw09_WalNils_k5
  refine st_call (sysNew hU 64) ?_
  rintro _ w2 ⟨hU2, ⟨hn, _⟩ | ⟨hok, g, rfl, hD⟩⟩
  · exact absurd (by decide) hn
  obtain ⟨hd, hd1, hO2, -, hf2⟩ := hD
  have hok : DvOk (newD (Int.toNat 64)) := DvOk.new (by decide) (by decide)
  simp only [PX, BX]
  obtain ⟨i, hi, hz, hs, hb⟩ := inf5
  have hmk := fun (K : Value → World → Prop) hk => st_make (n := 64) (q := .i64) (K := K) u51 hi hz hs hb (by omega) (by omega) hU2 hO2 hk
  refine hmk _ ?_
  intro ga w3 hU3 hO3 hga
  have hrd : Rd w3 1 (.slice (some ⟨ga, 0, none⟩) 64 64) 64 (bytesV (List.replicate 64 0)) := rd_row (hO3.at_ 0 rfl) (by simp [bytesV]) (Nat.le_refl _) (by
    rw [Nat.mul_one, show (Value.int .u8 0).cells = #[Value.int .u8 0] from rfl, toList_madeCells_one]
    simp [bytesV])
  refine st_call (Start_spec (b := List.replicate 64 0) hok hd1 (hO3.perm (List.perm_append_comm (l₁ := [_]) (l₂ := hd))) hU3 (fresh0 hf2) (by simpa using hrd) (by simp) hand 0 ⟨by omega, by omega⟩) ?_
  by_cases hh : hands hand
  · have hup : upOf (newD (Int.toNat 64)) hand = none := by
      unfold upOf newD
      rw [List.getD_eq_getElem?_getD, List.getElem?_replicate]
      split <;> rfl
    have hst : startD (newD (Int.toNat 64)) hand 0 (List.replicate 64 0) = (⟨(newD (Int.toNat 64)).B, (newD (Int.toNat 64)).up.set hand.toNat (some (0, List.replicate 64 0))⟩, 0) :=
      startD_free (a := 0) hh rfl (by simp) (by simp) (by decide) hup
    have hok2 := hok.start hand 0 (List.replicate 64 0)
    rw [hst] at hok2 ⊢
    rintro _ w4 ⟨rfl, hU4, hd4, hd4', hO4, hf4⟩
    refine st_call (Open_log_spec hok2 hd4' (fun p hp => List.mem_append_left _ hp) hO4 hU4 hand) ?_
    have he : openE ⟨(newD (Int.toNat 64)).B, (newD (Int.toNat 64)).up.set hand.toNat (some (0, List.replicate 64 0))⟩ hand = 10 := by
      have hus := up_set (B := (newD (Int.toNat 64)).B) (x := some (0, List.replicate 64 0)) hok hh
      unfold upOf at hus
      unfold openE
      rw [if_neg (fun hx => hx.elim (fun hx => by simp [newD] at hx) fun hx => hx hh), if_neg (by rw [hus]; simp)]
    rw [he]
    rintro _ w5 ⟨hU5, ⟨-, rfl, -⟩ | ⟨hx, -⟩⟩
    · simp only [PX, BX]
      refine ⟨fun _ => ⟨fun _ => nils_lives hU5, fun h => absurd trivial h⟩, fun h => absurd trivial h⟩
    · cases hx
  · have hst : startD (newD (Int.toNat 64)) hand 0 (List.replicate 64 0) = (newD (Int.toNat 64), 1) := by
      unfold startD
      rw [if_pos (.inl hh)]
    rw [hst]
    rintro _ w4 ⟨rfl, hU4, hd4, hd4', hO4, hf4⟩
    refine st_call (Open_log_spec hok hd4' (fun p hp => List.mem_append_left _ hp) hO4 hU4 hand) ?_
    have he : openE (newD (Int.toNat 64)) hand = 1 := by
      unfold openE
      rw [if_pos (.inr hh)]
    rw [he]
    rintro _ w5 ⟨hU5, ⟨-, rfl, -⟩ | ⟨hx, -⟩⟩
    · simp only [PX, BX]
      refine ⟨fun h => absurd h (by decide), fun _ => ⟨fun _ => ⟨fun _ => nils_lives hU5, fun h => absurd trivial h⟩, fun h => absurd trivial h⟩⟩
    · cases hx
theorem WalNils_spec (W : World) (hand l : Int) (vr : Value) (r : Re) (hr : RdRe W vr r) (hs : shortR r) :
    CallsR Try.prog 7 #[.int .i64 hand, vr, .int .u64 l] W fun u w' => u = .bool true ∧ Upd W w' [] := by
  apply flotillalaw09_WalNils_sound
  unfold flotillalaw09_WalNils_x flotillalaw09_WalNils_k1 flotillalaw09_WalNils_k2 flotillalaw09_WalNils_k3 flotillalaw09_WalNils_k4
  obtain ⟨vt, vd, rfl, ht, hd⟩ := hr
  refine st_box (Upd.refl W []) (Owns.nil W) ?_
  intro g w1 hU1 hO1 hg
  have hO1 : Owns w1 [(g, reO r vt vd)] := hO1
  have hre : ∀ {w'}, Upd W w' [] → RdRe w' (.agg (reV r vt vd).toArray) r := fun hu => ⟨vt, vd, rfl, ht.mono hu, hd.mono hu⟩
  refine st_call (Open_log_nil w1 hand) ?_
  rintro _ _ ⟨rfl, rfl⟩
  simp only [PX, BX]
  refine ⟨fun h => absurd rfl h, fun _ => ?_⟩
  refine st_call Read_nil' ?_
  rintro _ w2 ⟨⟨A, c, rfl⟩, hU2⟩
  have hO2 := hO1.ext hU2
  have hU2 := hU1.trans hU2
  simp only [PX, BX]
  refine ⟨fun h => absurd rfl h, fun _ => ?_⟩
  rw [step_run (run_re (hO2.at_ 0 rfl))]
  refine st_call (light_spec hs (hre hU2)) ?_
  rintro _ w3 ⟨rfl, hU3⟩
  have hO3 := hO2.ext hU3
  have hU3 := hU2.trans hU3
  simp only [PX, BX]
  refine ⟨fun hli => ?_, fun hnl => ⟨fun _ => ?_, fun h => absurd trivial h⟩⟩
  rotate_left
  · rw [step_run (run_re (hO3.at_ 0 rfl))]
    refine st_call (light_spec hs (hre hU3)) ?_
    rintro _ w4 ⟨rfl, hU4⟩
    simp only [PX, BX]
    exact ⟨fun h => absurd h hnl, fun _ => nils_lives (hU3.trans hU4)⟩
  refine st_call (Find_nil l) ?_
  rintro _ w4 ⟨rfl, hU4⟩
  have hO4 := hO3.ext hU4
  have hU4 := hU3.trans hU4
  simp only [PX]
  refine st_alloc ze_re hU4 hO4 ?_
  intro g5 w5 hU5 hO5 hg5
  refine st_re (r0 := re0) (vt0 := nilS) (vd0 := nilS) hU5 hO5 0 rfl rfl rfl (.inr hg5) ?_
  intro w6 hU6 hO6
  have hO6 : Owns w6 [(g5, reO re0 nilS nilS), (g, reO r vt vd)] := hO6
  simp only [BX]
  rw [step_run (run_re (hO6.at_ 1 rfl))]
  refine st_call (Append_nil (hre hU6)) ?_
  rintro _ w7 ⟨rfl, hU7⟩
  have hO7 := hO6.ext hU7
  have hU7 := hU6.trans hU7
  simp only [PX, BX]
  refine ⟨fun h => absurd rfl h, fun _ => ?_⟩
  rw [step_run (run_re (hO7.at_ 1 rfl))]
  refine st_call (Spend_nil (hre hU7)) ?_
  rintro _ w8 ⟨rfl, hU8⟩
  have hU8 := hU7.trans hU8
  simp only [PX, BX]
  refine ⟨fun h => absurd rfl h, fun _ => ?_⟩
  refine st_call (Keep_nil 1) ?_
  rintro _ _ ⟨rfl, rfl⟩
  simp only [PX, BX]
  refine ⟨fun h => absurd rfl h, fun _ => ?_⟩
  refine st_call Done_nil ?_
  rintro _ _ ⟨rfl, rfl⟩
  simp only [PX, BX]
  refine ⟨fun h => absurd rfl h, fun _ => ?_⟩
  refine st_call Force_nil ?_
  rintro _ w9 ⟨rfl, hU9⟩
  have hU9 := hU8.trans hU9
  simp only [BX]
  refine st_call Flying_nil' ?_
  rintro _ _ ⟨rfl, rfl⟩
  simp only [BX]
  refine st_call Room_nil ?_
  rintro _ _ ⟨rfl, rfl⟩
  refine st_call Kept_nil ?_
  rintro _ _ ⟨rfl, rfl⟩
  simp only [PX]
  refine st_call Records_nil ?_
  rintro _ _ ⟨rfl, rfl⟩
  simp only [PX, BX]
  refine ⟨fun h => absurd (by decide) h, fun _ => ?_⟩
  refine st_call Stable_nil ?_
  rintro _ _ ⟨rfl, rfl⟩
  simp only [PX, BX]
  refine ⟨fun h => absurd rfl h, fun _ => ?_⟩
  refine st_call Last_nil ?_
  rintro _ _ ⟨rfl, rfl⟩
  simp only [PX, BX]
  refine ⟨fun h => absurd rfl h, fun _ => ?_⟩
  refine st_call (Drop_nil 1) ?_
  rintro _ _ ⟨rfl, rfl⟩
  exact nils_end hand hU9
end Go.Proofs.Ytplpjikcgheiiaa.Wal
