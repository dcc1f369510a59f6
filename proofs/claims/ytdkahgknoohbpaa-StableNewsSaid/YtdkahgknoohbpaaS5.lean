/- The example of the chapter; a write begun with what is filled; what is played. -/
import Derived.Test.YtdkahgknoohbpaaS4
namespace Go.Proofs.Ytdkahgknoohbpaa
open Go Xf Go.RowKit
set_option linter.unusedVariables false
set_option linter.unusedSimpArgs false
set_option maxRecDepth 100000

variable {w W : World} {ks : List Nat} {F : List (Nat × Obj)}

theorem fresh_nil {h : List (Nat × Obj)} (hh : ∀ p ∈ h, W.heap.size ≤ p.1) : ∀ p ∈ h, p.1 ∈ ([] : List Nat) ∨ W.heap.size ≤ p.1 := fun p hp => .inr (hh p hp)
theorem nil_fresh {h : List (Nat × Obj)} (hh : ∀ p ∈ h, p.1 ∈ ([] : List Nat) ∨ W.heap.size ≤ p.1) : ∀ p ∈ h, W.heap.size ≤ p.1 := fun p hp => (hh p hp).elim (fun h => by cases h) id

/-- a row's byte -/
theorem row_byte {v : Value} {n : Nat} {l : List UInt8} {h G : List (Nat × Obj)} (hr : RowH 5 1 v n (bytesV l) h) (hG : ∀ p ∈ h, p ∈ G) (hO : Owns w G) {i : Nat} {b : UInt8} (hi : l[i]? = some b) :
    ∃ a c, v = .slice (some a) n c ∧ i < n ∧ ∀ w', Owns w' G → w'.cell? (a.add i) = some (.int .u8 b.toNat) := by
  have hlen : l.length = n := by have := hr.1; rw [bytesV_len, Nat.mul_one] at this; exact this
  have hin : i < n := by rw [← hlen]; exact (List.getElem?_eq_some_iff.1 hi).1
  rcases hr.2 with ⟨_, h2, _⟩ | ⟨g, cap, cs, rfl, rfl, h3, h4, h5, h6⟩
  · omega
  · refine ⟨_, _, rfl, hin, fun w' ho => ?_⟩
    rw [add_mk, Nat.zero_add, cell_at (ho.2 _ (hG _ (.head _)))]
    have : (bytesV l)[i]? = some (.int .u8 b.toNat) := by simp [bytesV, hi]
    rw [← h6, List.getElem?_take] at this
    split at this
    · simpa using this
    · cases this

theorem lives_spec (hU : Upd W w []) : CallsR Try.prog 10 #[] w fun r w' => r = .bool true ∧ Upd W w' [] := by
  apply flotillalaw08_lives_sound
  unfold flotillalaw08_lives_x
  refine st_call (New_spec (F := []) hU (Owns.nil w) 128) ?_
  rintro _ w1 ⟨hU1, ⟨hn, _⟩ | ⟨_, v, h, rfl, hd, hO1, hh⟩⟩
  · exact absurd (by decide) hn
  have ok : DvOk (newD (Int.toNat 128)) := DvOk.new (by decide) (by decide)
  obtain ⟨g, A, c, rfl, _⟩ := hd.cells (fun p hp => List.mem_append_left _ hp) hO1
  simp (disch := first | assumption | omega) only [PX, BX]
  refine ⟨fun h => absurd rfl h, fun _ => ?_⟩
  refine st_call (filled_spec hO1 hU1 64 (by decide) 7) ?_
  rintro v2 w2 ⟨h2, hr2, hO2, hU2, hh2⟩
  have hO2' : Owns w2 (h ++ (h2 ++ [])) := hO2.perm (List.perm_append_comm_assoc _ _ _)
  refine st_call (Start_spec (b := List.replicate 64 7) ok hd hO2' hU2 (fresh_nil hh) (hr2.rdIn fun p hp => hO2.2 p (List.mem_append_left _ hp)) (by decide) 0 64 (by decide)) ?_
  rintro _ w3 ⟨rfl, hU3, h3, hd3, hO3, hh3⟩
  have e3 : (startD (newD (Int.toNat 128)) 0 64 (List.replicate 64 7)).2 = 0 := by decide
  rw [e3]
  simp (disch := first | assumption | omega) only [PX, BX]
  refine ⟨fun h => absurd rfl h, fun _ => ?_⟩
  have ok3 := ok.start 0 64 (List.replicate 64 7)
  refine st_call (Read_spec hd3 ok3.most (fun p hp => List.mem_append_left _ hp) hO3 hU3 64 64) ?_
  rintro _ w4 ⟨hU4, ⟨hn, _⟩ | ⟨_, v4, h4, rfl, hr4, hO4, hh4⟩⟩
  · exact absurd hn (by decide)
  have e4 : ((startD (newD (Int.toNat 128)) 0 64 (List.replicate 64 7)).1.B.drop (Int.toNat 64)).take (Int.toNat 64) = List.replicate 64 0 := by decide
  rw [e4] at hr4
  obtain ⟨a4, c4, rfl, hi4, hc4⟩ := row_byte (i := 0) (b := 0) hr4 (fun p hp => List.mem_append_left _ hp) hO4 (by decide)
  simp (disch := first | assumption | omega) only [PX, BX]
  refine ⟨fun h => absurd rfl h, fun _ => ⟨fun h => absurd rfl h, fun _ => ?_⟩⟩
  rw [step_run (run_idxS (i := 0) u34 sz5 (by omega) (by decide))]
  have c40 := hc4 w4 hO4
  simp (disch := first | assumption | omega) only [PX, BX, LX, Int.toNat_zero, Nat.zero_mul]
  refine ⟨fun h => absurd rfl h, fun _ => ?_⟩
  have hO4' : Owns w4 (h3 ++ (h4 ++ (h2 ++ []))) := hO4.perm (List.perm_append_comm_assoc _ _ _)
  refine st_call (Finish_spec ok3 hd3 hO4' hU4 hh3 0) ?_
  rintro _ w5 ⟨rfl, hU5, h5, hd5, hO5, hh5⟩
  have e5 : (endD (startD (newD (Int.toNat 128)) 0 64 (List.replicate 64 7)).1 0 (-1)).2 = 0 := by decide
  rw [e5]
  simp (disch := first | assumption | omega) only [PX, BX]
  refine ⟨fun h => absurd rfl h, fun _ => ?_⟩
  have ok5 := ok3.end_ 0 (-1)
  refine st_call (Read_spec hd5 ok5.most (fun p hp => List.mem_append_left _ hp) hO5 hU5 64 64) ?_
  rintro _ w6 ⟨hU6, ⟨hn, _⟩ | ⟨_, v6, h6, rfl, hr6, hO6, hh6⟩⟩
  · exact absurd hn (by decide)
  have e6 : ((endD (startD (newD (Int.toNat 128)) 0 64 (List.replicate 64 7)).1 0 (-1)).1.B.drop (Int.toNat 64)).take (Int.toNat 64) = List.replicate 64 7 := by decide
  rw [e6] at hr6
  obtain ⟨a6, c6, rfl, hi6, hc6⟩ := row_byte (i := 63) (b := 7) hr6 (fun p hp => List.mem_append_left _ hp) hO6 (by decide)
  simp (disch := first | assumption | omega) only [PX, BX]
  refine ⟨fun _ => ⟨fun _ => ?_, fun h => absurd rfl h⟩, fun h => absurd trivial h⟩
  rw [step_run (run_idxS (i := 63) u34 sz5 (by omega) (by decide))]
  have c60 := hc6 w6 hO6
  have e63 : Int.toNat 63 * 1 = 63 := rfl
  simp (disch := first | assumption | omega) only [e63, PX, BX, LX]
  exact ⟨rfl, hU6⟩

/-- a device's write of so many bytes that are all the same -/
def beginD (d : Dv) (o : Op) : Dv × Int := startD d o.hand o.at_ (List.replicate (longO o).toNat o.fill)
theorem st_begin {S : World → Prop} {v : Value} {d : Dv} {h : List (Nat × Obj)} {o : Op} {K : (World → Prop) → Value → World → Prop} (hS : ∀ w', SU W F w' → S w') (ok : DvOk d) (hd : DevH d v h) (hO : Owns w (h ++ F)) (hU : Upd W w []) (hh : ∀ p ∈ h, W.heap.size ≤ p.1)
    (hin : Ok64 o) (h0 : 0 ≤ longO o) (hk : ∀ w' h', DevH (beginD d o).1 v h' → Owns w' (h' ++ F) → Upd W w' [] → (∀ p ∈ h', W.heap.size ≤ p.1) → K (SU W F) (.int .i64 (beginD d o).2) w') :
    (std Try.prog).calls 9 #[.agg (opV o).toArray] w fun v1 w => (std Try.prog).keepS S w fun S1 => (std Try.prog).calls 12 #[v1, .int .u8 o.fill.toNat] w fun v2 w => (std Try.prog).keepS S1 w fun S2 =>
      (std Try.prog).calls 11 #[v, .int .i64 o.hand, .int .i64 o.at_, v2] w fun v3 w => (std Try.prog).keepT w fun S3 => K S3 v3 w := by
  have hsub : ∀ (l : List (Nat × Obj)), List.Sublist F (l ++ F) := fun l => List.sublist_append_right _ _
  refine st_call (long_spec hO hU o) ?_
  rintro _ w1 ⟨rfl, hU1, hO1⟩
  refine st_keepS (SU W F) hS ⟨hU1, hO1.sub (hsub _)⟩ ?_
  obtain ⟨n, hn⟩ : ∃ n : Nat, longO o = n := ⟨(longO o).toNat, by omega⟩
  have hle := (longO_le o).1
  have hb : beginD d o = startD d o.hand o.at_ (List.replicate n o.fill) := by unfold beginD; rw [hn, Int.toNat_natCast]
  rw [hn]
  rw [hb] at hk
  refine st_call (filled_spec hO1 hU1 n (by omega) o.fill) ?_
  rintro v2 w2 ⟨h2, hr2, hO2, hU2, hh2⟩
  have hO2' : Owns w2 (h ++ (h2 ++ F)) := hO2.perm (List.perm_append_comm_assoc _ _ _)
  refine st_keepS (SU W F) (fun _ h => h) ⟨hU2, hO2'.sub ((hsub h2).trans (List.sublist_append_right _ _))⟩ ?_
  have hr2' := hr2.rdIn fun p hp => hO2.2 p (List.mem_append_left _ hp)
  refine st_call (Start_spec (b := List.replicate n o.fill) ok hd hO2' hU2 (fresh_nil hh) (by rw [List.length_replicate]; exact hr2') (by rw [List.length_replicate]; omega) o.hand o.at_ ⟨hin.2.2.1.1, hin.2.2.1.2⟩) ?_
  rintro _ w3 ⟨rfl, hU3, h3, hd3, hO3, hh3⟩
  have hO3' : Owns w3 (h3 ++ F) := hO3.sub (List.Sublist.append (List.Sublist.refl _) (hsub _))
  exact st_keepT (SU W F) ⟨hU3, hO3'.sub (hsub _)⟩ (hk w3 h3 hd3 hO3' hU3 (nil_fresh hh3))

theorem ld_op {a : Addr} {o : Op} {w : World} {K : Value → World → Prop} (h : ∀ j u, (opV o)[j]? = some u → w.cell? (a.add j) = some u) :
    (std Try.prog).step (sLoad 24 (.pointer (some a))) w K = K (.agg (opV o).toArray) w :=
  step_run (run_sLoad (run_loadVarN (cs := opV o) ag24 (by rw [sz24]; rfl) h))
theorem sld_op {a : Addr} {o : Op} {S : World → Prop} {k : Value → Prop} (hne : ∃ w, S w) (h : ∀ w, S w → ∀ j u, (opV o)[j]? = some u → w.cell? (a.add j) = some u) :
    (std Try.prog).stepS S (sLoad 24 (.pointer (some a))) k = k (.agg (opV o).toArray) :=
  stepS_run hne fun w hw => run_sLoad (run_loadVarN (cs := opV o) ag24 (by rw [sz24]; rfl) (h w hw))

/-- what both laws do ahead: writes begun and ended -/
def play1 (d : Dv) (o : Op) : Dv :=
  let d1 := if o.kind = 0 ∧ 0 ≤ longO o then (beginD d o).1 else d
  if o.kind = 1 then (endD d1 o.hand (-1)).1 else d1
def playD (d : Dv) (l : List Op) : Dv := l.foldl play1 d
theorem play1_ok {d : Dv} (h : DvOk d) (o : Op) : DvOk (play1 d o) := by
  unfold play1
  have h1 : DvOk (if o.kind = 0 ∧ 0 ≤ longO o then (beginD d o).1 else d) := by
    split
    · exact h.start _ _ _
    · exact h
  dsimp only
  split
  · exact h1.end_ _ _
  · exact h1
theorem playD_ok {d : Dv} (h : DvOk d) (l : List Op) : DvOk (playD d l) := by
  induction l generalizing d with
  | nil => exact h
  | cons o l ih => exact ih (play1_ok h o)
theorem playD_take (d : Dv) (l : List Op) {i : Nat} (hi : i < l.length) : playD d (l.take (i + 1)) = play1 (playD d (l.take i)) l[i] := by
  unfold playD
  rw [List.take_succ_eq_append_getElem hi, List.foldl_append]
  rfl
theorem start_len (d : Dv) (hand at_ : Int) (b : List UInt8) : (startD d hand at_ b).1.B = d.B := by
  unfold startD
  split
  · rfl
  · split
    · rfl
    · split <;> rfl
theorem end_len {d : Dv} (h : DvOk d) (hand most : Int) : (endD d hand most).1.B.length = d.B.length := by
  unfold endD
  split
  · split
    · rename_i a b he
      obtain ⟨f1, f2, f3, f4⟩ := h.fits _ a b (getD_some he)
      exact putB_len f4 (cutL_le _ _)
    · rfl
  · rfl
theorem play1_len {d : Dv} (h : DvOk d) (o : Op) : (play1 d o).B.length = d.B.length := by
  unfold play1
  dsimp only
  split
  · rw [end_len]
    · split
      · unfold beginD; rw [start_len]
      · rfl
    · split
      · exact h.start _ _ _
      · exact h
  · split
    · unfold beginD; rw [start_len]
    · rfl
theorem playD_len {d : Dv} (h : DvOk d) (l : List Op) : (playD d l).B.length = d.B.length := by
  induction l generalizing d with
  | nil => rfl
  | cons o l ih =>
    show (playD (play1 d o) l).B.length = _
    rw [ih (play1_ok h o), play1_len h]
end Go.Proofs.Ytdkahgknoohbpaa
