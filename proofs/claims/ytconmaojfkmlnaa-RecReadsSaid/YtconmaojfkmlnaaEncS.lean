/- Ported from another seat (enc/S.lean). -/
import Derived.Test.YtconmaojfkmlnaaEncM
namespace Go.Proofs.Ytconmaojfkmlnaa.Enc
open Go Go.Proofs.Ytconmaojfkmlnaa Xf Go.RowKit
set_option linter.unusedVariables false
set_option linter.unusedSimpArgs false
set_option maxRecDepth 100000

theorem New_spec (W : World) : CallsR Try.prog 36 #[] W fun r w' => ∃ g, r = .pointer (some ⟨g, 0, none⟩) ∧ WI W [] g [] w' := by
  apply enc_New_sound
  unfold enc_New_x
  rw [step_run (show (sBuild 108 []).run Try.prog W = .ok (.value (.agg #[.slice none 0 0])) W by kernel_rfl)]
  refine st_box (Upd.refl W []) (Owns.nil W) ?_
  intro g w1 hU1 hO1 hg
  exact ⟨g, rfl, .slice none 0 0, [], RowH.nil_ _ _, hO1, hU1, (fun p hp => by cases hp), hg⟩

theorem one_byte (b : UInt8) (w : World) : (sBuildSlice 22 1 [(0, .int .u8 (b.toNat : Nat))]).run Try.prog w = .ok (.value (.slice (some ⟨w.heap.size, 0, none⟩) 1 1)) (w.alloc (.cells (bytesV [b]).toArray 5)) := by kernel_rfl

theorem num_nil (a b : Value) (w : World) : CallsR Try.prog 69 #[.pointer none, a, b] w fun r w' => w' = w := by
  apply enc_Writer_num_sound
  unfold enc_Writer_num_x
  simp only [NP, BX]

theorem num_spec {W w : World} {F : List (Nat × Obj)} {g : Nat} {l : List UInt8} (n k : Nat) (hk : k ≤ 8) (hl : l.length + k ≤ 140737488355000) (h : WI W F g l w) :
    CallsR Try.prog 69 #[.pointer (some ⟨g, 0, none⟩), .int .u64 (n : Nat), .int .i64 (k : Nat)] w fun r w' => WI W F g (l ++ leB n k) w' := by
  apply enc_Writer_num_sound
  unfold enc_Writer_num_x
  simp only [NP, BX]
  refine st_loop (fun vs w' => ∃ i : Nat, i ≤ k ∧ vs.getD 1 undef = .int .i64 i ∧ WI W F g (l ++ leB n i) w') (fun vs _ => k - (intOf (vs.getD 1 undef)).toNat) ⟨0, by omega, rfl, by simpa [leB] using h⟩ ?_
  rintro dv vs w1 - ⟨i, hi, e1, hW⟩
  simp (disch := omega) only [e1, PX, BX]
  refine ⟨fun hlt => ?_, fun hge => ?_⟩
  · obtain ⟨v, hh, hrow, hO, hU, hhs, hg⟩ := hW
    have hlen : (l ++ leB n i).length = l.length + i := by rw [List.length_append, leB_len]
    let S : World → Prop := fun w' => Upd W w' [] ∧ w'.cell? ⟨g, 0, none⟩ = some v
    have hcell : ∀ {w' : World} {hh' F' : List (Nat × Obj)}, Owns w' (hh' ++ ((g, .cells #[v] 108 (0, 0)) :: F')) → w'.cell? ⟨g, 0, none⟩ = some v := fun hO => cell_at ((hO.sub (List.sublist_append_right _ _)).at_ 0 rfl)
    have hO1 := hO.ext (Upd.drew w1 [])
    have hU1 := hU.trans (Upd.drew w1 [])
    have hS1 : S w1.drew := ⟨hU1, hcell hO1⟩
    have hne : ∃ w', S w' := ⟨_, hS1⟩
    refine st_draw S hS1 ?_
    have c0 : ∀ w', S w' → w'.cell? ⟨g, 0, none⟩ = some v := fun w' h => h.2
    simp (disch := first | assumption | omega) only [SX, SLX, w64]
    rw [shrU n i (by omega), wrapU8, ← ofNat_toNat8]
    refine st_newRow (one_byte _) hU1 hO1 ?_
    intro g2 w2 hU2 hO2 hg2
    refine st_same ⟨hU2, hcell (hO2.sub (.cons _ (List.Sublist.refl _)))⟩ ?_
    obtain ⟨inf, hi1, hz1, hs, hb⟩ := inf5
    refine st_append (F := (g2, Obj.cells (bytesV [UInt8.ofNat (n / 256 ^ i)]).toArray 5 (0, 0)) :: (g, .cells #[v] 108 (0, 0)) :: F) u22 hi1 hz1 hs hb rfl (by omega) hrow (hO2.perm List.perm_middle.symm) hU2 (fun q hq => .inr (hhs q hq)) (rd_row (n := 1) (c := 1) (xs := bytesV [UInt8.ofNat (n / 256 ^ i)]) (hO2.at_ 0 rfl) rfl (by omega) rfl) (bytesV_one _) (by rw [hlen]; unfold maxLen; omega) (by rw [hlen]; omega) ?_
    intro v3 w3 h3 hr3 hO3 hU3 hh3
    have hO3' : Owns w3 (h3 ++ ((g, .cells #[v] 108 (0, 0)) :: F)) := hO3.sub (List.Sublist.append (List.Sublist.refl _) (.cons _ (List.Sublist.refl _)))
    refine st_same ⟨hU3, hcell hO3'⟩ ?_
    simp (disch := first | assumption | omega) only [SX]
    have hv3 : v3.oneCell' = true := by
      obtain ⟨A, c, rfl, _⟩ := hr3.rd (F := []) (by rw [List.append_nil]; exact hO3.sub (List.sublist_append_left _ _))
      rfl
    have hP := hO3'.perm (List.perm_middle (a := (g, Obj.cells #[v] 108 (0, 0))) (l₁ := h3) (l₂ := F))
    refine st_storeB sz22 (by obtain ⟨A, c, rfl, _⟩ := hr3.rd (F := []) (by rw [List.append_nil]; exact hO3.sub (List.sublist_append_left _ _)); rfl) hU3 hP 0 rfl (by simp) (.inr (Nat.zero_le _)) (.inr hg) ?_
    intro w4 hU4 hO4
    have hO4 : Owns w4 ((g, .cells #[v3] 108 (0, 0)) :: (h3 ++ F)) := hO4
    refine st_keepT (fun _ => True) trivial ?_
    refine ⟨⟨i + 1, by omega, rfl, v3, h3, ?_, hO4.perm List.perm_middle.symm, hU4, fun q hq => (hh3 q hq).resolve_left (by simp), hg⟩, ?_⟩
    · rw [leB_succ, ← List.append_assoc, show (l ++ leB n i ++ [UInt8.ofNat (n / 256 ^ i)]).length = (l ++ leB n i).length + 1 by simp [Nat.add_assoc]]
      have : bytesV (l ++ leB n i) ++ bytesV [UInt8.ofNat (n / 256 ^ i)] = bytesV (l ++ leB n i ++ [UInt8.ofNat (n / 256 ^ i)]) := by simp [bytesV]
      rw [this] at hr3
      exact hr3
    · simp only [List.getD_cons_succ, List.getD_cons_zero, intOf]; omega
  · obtain rfl : i = k := by omega
    exact hW

theorem Byte_spec {W w : World} {F : List (Nat × Obj)} {g : Nat} {l : List UInt8} (n : Nat) (hl : l.length + 8 ≤ 140737488355000) (hn : n < 256) (h : WI W F g l w) :
    CallsR Try.prog 49 #[.pointer (some ⟨g, 0, none⟩), .int .u8 (n : Nat)] w fun r w' => WI W F g (l ++ leB n 1) w' := by
  apply enc_Writer_Byte_sound
  unfold enc_Writer_Byte_x
  simp only [PX, wrapU64, Nat.mod_eq_of_lt (show n < 18446744073709551616 by omega)]
  exact st_call (num_spec n 1 (by omega) (by omega) h) fun _ _ h => h
theorem Two_spec {W w : World} {F : List (Nat × Obj)} {g : Nat} {l : List UInt8} (n : Nat) (hl : l.length + 8 ≤ 140737488355000) (hn : n < 65536) (h : WI W F g l w) :
    CallsR Try.prog 37 #[.pointer (some ⟨g, 0, none⟩), .int .u16 (n : Nat)] w fun r w' => WI W F g (l ++ leB n 2) w' := by
  apply enc_Writer_Two_sound
  unfold enc_Writer_Two_x
  simp only [PX, wrapU64, Nat.mod_eq_of_lt (show n < 18446744073709551616 by omega)]
  exact st_call (num_spec n 2 (by omega) (by omega) h) fun _ _ h => h
theorem Four_spec {W w : World} {F : List (Nat × Obj)} {g : Nat} {l : List UInt8} (n : Nat) (hl : l.length + 8 ≤ 140737488355000) (hn : n < 4294967296) (h : WI W F g l w) :
    CallsR Try.prog 51 #[.pointer (some ⟨g, 0, none⟩), .int .u32 (n : Nat)] w fun r w' => WI W F g (l ++ leB n 4) w' := by
  apply enc_Writer_Four_sound
  unfold enc_Writer_Four_x
  simp only [PX, wrapU64, Nat.mod_eq_of_lt (show n < 18446744073709551616 by omega)]
  exact st_call (num_spec n 4 (by omega) (by omega) h) fun _ _ h => h
theorem Eight_spec {W w : World} {F : List (Nat × Obj)} {g : Nat} {l : List UInt8} (n : Nat) (hl : l.length + 8 ≤ 140737488355000) (h : WI W F g l w) :
    CallsR Try.prog 50 #[.pointer (some ⟨g, 0, none⟩), .int .u64 (n : Nat)] w fun r w' => WI W F g (l ++ leB n 8) w' := by
  apply enc_Writer_Eight_sound
  unfold enc_Writer_Eight_x
  exact st_call (num_spec n 8 (by omega) (by omega) h) fun _ _ h => h

/-- a text as it is laid -/
def textB (s : List UInt8) : List UInt8 := leB (min s.length 65535) 2 ++ s.take 65535
theorem Text_spec {W w : World} {F : List (Nat × Obj)} {g : Nat} {l : List UInt8} (s : List UInt8) (hl : l.length + 70000 ≤ 140737488355000) (h : WI W F g l w) :
    CallsR Try.prog 52 #[.pointer (some ⟨g, 0, none⟩), .string ⟨s.toArray⟩] w fun r w' => WI W F g (l ++ textB s) w' := by
  apply enc_Writer_Text_sound
  unfold enc_Writer_Text_x
  have rest : ∀ t : List UInt8, t.length ≤ 65535 → enc_Writer_Text_k1 (std Try.prog) (.pointer (some ⟨g, 0, none⟩)) (.string ⟨t.toArray⟩) w fun r w' => WI W F g (l ++ (leB t.length 2 ++ t)) w' := by
    intro t ht
    unfold enc_Writer_Text_k1
    simp only [PX, size_mk, wrapU64, Nat.mod_eq_of_lt (show t.length < 18446744073709551616 by omega)]
    refine st_call (num_spec t.length 2 (by omega) (by omega) h) ?_
    rintro _ w1 ⟨v, hh, hrow, hO, hU, hhs, hg⟩
    have hlen : (l ++ leB t.length 2).length = l.length + 2 := by rw [List.length_append, leB_len]
    have c0 : w1.cell? ⟨g, 0, none⟩ = some v := cell_at ((hO.sub (List.sublist_append_right _ _)).at_ 0 rfl)
    simp (disch := first | assumption | omega) only [PX, LX]
    obtain ⟨inf, hi1, hz1, hs, hb⟩ := inf5
    refine st_appendS (F := (g, .cells #[v] 108 (0, 0)) :: F) u22 hi1 hz1 hs hb rfl rfl u9 hrow hO hU (fun q hq => .inr (hhs q hq)) (by rw [hlen]; unfold maxLen; omega) (by rw [hlen]; omega) ?_
    intro v3 w3 h3 hr3 hO3 hU3 hh3
    have hP := hO3.perm (List.perm_middle (a := (g, Obj.cells #[v] 108 (0, 0))) (l₁ := h3) (l₂ := F))
    refine st_storeB sz22 (by obtain ⟨A, c, rfl, _⟩ := hr3.rd (F := []) (by rw [List.append_nil]; exact hO3.sub (List.sublist_append_left _ _)); rfl) hU3 hP 0 rfl (by simp) (.inr (Nat.zero_le _)) (.inr hg) ?_
    intro w4 hU4 hO4
    have hO4 : Owns w4 ((g, .cells #[v3] 108 (0, 0)) :: (h3 ++ F)) := hO4
    refine ⟨v3, h3, ?_, hO4.perm List.perm_middle.symm, hU4, fun q hq => (hh3 q hq).resolve_left (by simp), hg⟩
    rw [← List.append_assoc, show (l ++ leB t.length 2 ++ t).length = (l ++ leB t.length 2).length + t.length by simp [Nat.add_assoc]]
    have : bytesV (l ++ leB t.length 2) ++ bytesV t = bytesV (l ++ leB t.length 2 ++ t) := by simp [bytesV]
    rw [this] at hr3
    exact hr3
  simp only [NP, BX, PX, size_mk]
  refine ⟨fun hbig => ?_, fun hsm => ?_⟩
  · rw [step_run (run_strTo (i := 65535) u9 (by omega) (by omega))]
    have := rest (s.take 65535) (by simp; omega)
    unfold textB
    rw [Nat.min_eq_right (by omega)]
    rw [List.length_take, Nat.min_eq_left (by omega)] at this
    exact this
  · have := rest s (by omega)
    unfold textB
    rw [Nat.min_eq_left (by omega), List.take_of_length_le (by omega)]
    exact this

theorem Done_nil (w : World) : CallsR Try.prog 39 #[.pointer none] w fun r w' => r = .slice none 0 0 ∧ w' = w := by
  apply enc_Writer_Done_sound
  unfold enc_Writer_Done_x
  simp only [NP, BX]
  exact ⟨trivial, trivial⟩
theorem empty_row (w : World) : (sBuildSlice 22 0 []).run Try.prog w = .ok (.value (.slice (some ⟨w.heap.size, 0, none⟩) 0 0)) (w.alloc (.cells #[] 5)) := by kernel_rfl
/-- bytes in a row of their own -/
def NewB (w w' : World) (r : Value) (l : List UInt8) : Prop := ∃ h, RowH 5 1 r l.length (bytesV l) h ∧ Owns w' h ∧ Upd w w' [] ∧ ∀ p ∈ h, w.heap.size ≤ p.1
theorem Done_spec {W w : World} {F : List (Nat × Obj)} {g : Nat} {l : List UInt8} (hl : l.length ≤ 140737488355000) (h : WI W F g l w) :
    CallsR Try.prog 39 #[.pointer (some ⟨g, 0, none⟩)] w fun r w' => NewB w w' r l := by
  apply enc_Writer_Done_sound
  unfold enc_Writer_Done_x
  obtain ⟨v, hh, hrow, hO, hU, hhs, hg⟩ := h
  have c0 : w.cell? ⟨g, 0, none⟩ = some v := cell_at ((hO.sub (List.sublist_append_right _ _)).at_ 0 rfl)
  have hrd := hrow.rd hO
  simp only [NP, BX]
  refine st_newRow empty_row (Upd.refl w []) (Owns.nil w) ?_
  intro g2 w2 hU2 hO2 hg2
  have c0 : w2.cell? ⟨g, 0, none⟩ = some v := by rw [hU2.cell (lt_of_some ((hO.sub (List.sublist_append_right _ _)).at_ 0 rfl)) (by simp)]; exact c0
  simp (disch := first | assumption | omega) only [PX, LX]
  obtain ⟨inf, hi1, hz1, hs, hb⟩ := inf5
  refine st_append (h := [(g2, .cells #[] 5)]) (F := []) u22 hi1 hz1 hs hb rfl (by omega) (row_nil 5 g2) hO2 hU2 (fun q hq => by simp at hq; subst hq; exact .inr hg2) (hrd.mono hU2) (bytesV_one _) (by unfold maxLen; omega) (by omega) ?_
  intro v3 w3 h3 hr3 hO3 hU3 hh3
  refine ⟨h3, by simpa using hr3, by simpa using hO3, hU3, fun q hq => (hh3 q hq).resolve_left (by simp)⟩
end Go.Proofs.Ytconmaojfkmlnaa.Enc
