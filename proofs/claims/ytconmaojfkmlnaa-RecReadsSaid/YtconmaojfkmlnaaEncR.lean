/- Ported from another seat (enc/S2.lean). -/
import Derived.Test.YtconmaojfkmlnaaEncS
namespace Go.Proofs.Ytconmaojfkmlnaa.Enc
open Go Go.Proofs.Ytconmaojfkmlnaa Xf Go.RowKit
set_option linter.unusedVariables false
set_option linter.unusedSimpArgs false
set_option maxRecDepth 100000

/-- a reader: block g, with the bytes l left, and the error e; its bytes stand in the blocks hb -/
def RI (W : World) (F : List (Nat × Obj)) (g : Nat) (hb : List (Nat × Obj)) (l : List UInt8) (e : Nat) (w : World) : Prop :=
  ∃ (v : Value), (∀ w', Owns w' hb → Rd w' 1 v l.length (bytesV l)) ∧ Owns w ((g, .cells #[v, .int .i64 (e : Nat)] 99 (0, 0)) :: (hb ++ F)) ∧ Upd W w [] ∧ W.heap.size ≤ g
theorem RI.mid {W w : World} {F : List (Nat × Obj)} {g e : Nat} {hb : List (Nat × Obj)} {l : List UInt8} (h : RI W F g hb l e w) : Upd W w [] := by obtain ⟨_, _, _, h, _⟩ := h; exact h
theorem RI.ext {W w w' : World} {F : List (Nat × Obj)} {g e : Nat} {hb : List (Nat × Obj)} {l : List UInt8} (h : RI W F g hb l e w) (hU : Upd w w' []) : RI W F g hb l e w' := by
  obtain ⟨v, h1, h2, h3, h4⟩ := h
  exact ⟨v, h1, h2.ext hU, h3.trans hU, h4⟩
theorem RI.push {W w w' : World} {F : List (Nat × Obj)} {g e : Nat} {hb : List (Nat × Obj)} {l : List UInt8} {p : Nat × Obj} (h : RI W F g hb l e w) (hU : Upd w w' []) (hp : w'.heap[p.1]? = some p.2) (hg : w.heap.size ≤ p.1) : RI W (p :: F) g hb l e w' := by
  obtain ⟨v, h1, h2, h3, h4⟩ := h
  refine ⟨v, h1, ?_, h3.trans hU, h4⟩
  have hO : Owns w' (p :: ((g, .cells #[v, .int .i64 (e : Nat)] 99 (0, 0)) :: (hb ++ F))) := by
    refine ⟨?_, fun q hq => ?_⟩
    · rw [List.map_cons]
      refine List.nodup_cons.2 ⟨fun hm => ?_, h2.1⟩
      obtain ⟨q, hq, he⟩ := List.mem_map.1 hm
      have := h2.lt hq
      omega
    · rcases List.mem_cons.1 hq with rfl | hq
      · exact hp
      · exact (h2.ext hU).2 q hq
  refine hO.perm ?_
  refine (List.Perm.swap _ _ _).trans (List.Perm.cons _ ?_)
  exact List.perm_middle.symm
theorem RI.pop {W w : World} {F : List (Nat × Obj)} {g e : Nat} {hb : List (Nat × Obj)} {l : List UInt8} {p : Nat × Obj} (h : RI W (p :: F) g hb l e w) : RI W F g hb l e w := by
  obtain ⟨v, h1, h2, h3, h4⟩ := h
  exact ⟨v, h1, h2.sub (.cons_cons _ (List.Sublist.append (List.Sublist.refl _) (.cons _ (List.Sublist.refl _)))), h3, h4⟩
/-- what is kept beside a reader -/
theorem RI.kept {W w : World} {F : List (Nat × Obj)} {g e : Nat} {hb : List (Nat × Obj)} {l : List UInt8} (h : RI W F g hb l e w) : Owns w F := by
  obtain ⟨v, h1, h2, h3, h4⟩ := h
  exact h2.sub (.cons _ (List.sublist_append_right _ _))
theorem WI.kept {W w : World} {F : List (Nat × Obj)} {g : Nat} {l : List UInt8} (h : WI W F g l w) : Owns w F := by
  obtain ⟨v, hb, h1, h2, h3, h4⟩ := h
  exact h2.sub (.trans (.cons _ (List.Sublist.refl _)) (List.sublist_append_right _ _))

theorem Read_spec (W : World) (v : Value) (l : List UInt8) (hl : l.length ≤ 140737488355000) (hr : Rd W 1 v l.length (bytesV l)) :
    CallsR Try.prog 25 #[v] W fun r w' => ∃ g hb, r = .pointer (some ⟨g, 0, none⟩) ∧ RI W [] g hb l 0 w' ∧ ∀ p ∈ hb, W.heap.size ≤ p.1 := by
  apply enc_Read_sound
  unfold enc_Read_x
  refine st_newRow empty_row (Upd.refl W []) (Owns.nil W) ?_
  intro g2 w2 hU2 hO2 hg2
  obtain ⟨inf, hi1, hz1, hs, hb⟩ := inf5
  refine st_append (h := [(g2, .cells #[] 5)]) (F := []) u22 hi1 hz1 hs hb rfl (by omega) (row_nil 5 g2) hO2 hU2 (fun q hq => by simp at hq; subst hq; exact .inr hg2) (hr.mono hU2) (bytesV_one _) (by unfold maxLen; omega) (by omega) ?_
  intro v3 w3 h3 hr3 hO3 hU3 hh3
  have hr3 : RowH 5 1 v3 l.length (bytesV l) h3 := by simpa using hr3
  have hrd := hr3.rd hO3
  obtain ⟨A, c, rfl, _⟩ := hrd
  rw [step_run (show (sBuild 97 [(0, .slice A l.length c)]).run Try.prog w3 = .ok (.value (.agg #[.slice A l.length c])) w3 by kernel_rfl)]
  rw [step_run (show (sBuild 99 [(0, .agg #[.slice A l.length c])]).run Try.prog w3 = .ok (.value (.agg #[.slice A l.length c, .int .i64 0])) w3 by kernel_rfl)]
  refine st_box hU3 hO3 ?_
  intro g w4 hU4 hO4 hg
  exact ⟨g, h3, rfl, ⟨.slice A l.length c, fun w' hO => hr3.rd (F := []) (by rw [List.append_nil]; exact hO), hO4, hU4, hg⟩, fun q hq => (hh3 q hq).resolve_left (by simp)⟩

/-- what is taken off: the bytes, what is left, the error -/
def takeR (l : List UInt8) (e n : Nat) : List UInt8 × List UInt8 × Nat := if e ≠ 0 then ([], l, e) else if l.length < n then ([], l, 4) else (l.take n, l.drop n, 0)

theorem take_nil (a : Value) (w : World) : CallsR Try.prog 70 #[.pointer none, a] w fun r w' => r = .slice none 0 0 ∧ w' = w := by
  apply enc_Reader_take_sound
  unfold enc_Reader_take_x
  simp only [NP, BX]
  exact ⟨trivial, trivial⟩
theorem take_spec {W w : World} {F : List (Nat × Obj)} {g e : Nat} {hb : List (Nat × Obj)} {l : List UInt8} (n : Nat) (h : RI W F g hb l e w) :
    CallsR Try.prog 70 #[.pointer (some ⟨g, 0, none⟩), .int .i64 (n : Nat)] w fun r w' => RI W F g hb (takeR l e n).2.1 (takeR l e n).2.2 w' ∧ Rd w' 1 r (takeR l e n).1.length (bytesV (takeR l e n).1) := by
  apply enc_Reader_take_sound
  unfold enc_Reader_take_x
  obtain ⟨v, h1, h2, h3, h4⟩ := h
  have hOb := h2.sub (h' := hb) (.cons _ (List.sublist_append_left _ _))
  have hrd := h1 w hOb
  have hrd' := hrd
  obtain ⟨A, c, rfl, hc, _⟩ := hrd'
  have c0 : w.cell? ⟨g, 0, none⟩ = some (.slice A l.length c) := cell_at (h2.at_ 0 rfl)
  have c1 : w.cell? ⟨g, 1, none⟩ = some (.int .i64 (e : Nat)) := cell_at (h2.at_ 0 rfl)
  simp (disch := first | assumption | omega) only [NP, PX, BX, LX, add_mk, Nat.zero_add]
  refine ⟨fun he => ?_, fun he => ⟨fun hlt => ?_, fun hge => ?_⟩⟩
  · have : takeR l e n = ([], l, e) := by unfold takeR; rw [if_pos (by omega)]
    rw [this]
    exact ⟨⟨_, h1, h2, h3, h4⟩, Rd.nil_ _ _⟩
  · have : takeR l e n = ([], l, 4) := by unfold takeR; rw [if_neg (by omega), if_pos (by omega)]
    rw [this]
    refine st_storeB sz34 rfl h3 h2 0 rfl (by simp) (.inr (Nat.zero_le _)) (.inr h4) ?_
    intro w1 hU1 hO1
    exact ⟨⟨_, h1, hO1, hU1, h4⟩, Rd.nil_ _ _⟩
  · have : takeR l e n = (l.take n, l.drop n, 0) := by unfold takeR; rw [if_neg (by omega), if_neg (by omega)]
    rw [this]
    rw [step_run (run_sliceTo (i := (n : Int)) u22 sz5 (by omega) (by omega))]
    simp (disch := first | assumption | omega) only [NP, PX, BX, LX, add_mk, Nat.zero_add]
    rw [step_run (run_sliceFrom (i := (n : Int)) u22 sz5 (by omega) (by omega) hc)]
    refine st_storeB sz22 rfl h3 h2 0 rfl (by simp) (.inr (Nat.zero_le _)) (.inr h4) ?_
    intro w1 hU1 hO1
    have e0 : e = 0 := by omega
    subst e0
    have hOb1 := hO1.sub (h' := hb) (.cons _ (List.sublist_append_left _ _))
    have hn : n ≤ l.length := by omega
    simp only [show ((n : Nat) : Int).toNat = n by omega] at hO1 ⊢
    have bt : (bytesV l).take (n * 1) = bytesV (l.take n) := by rw [Nat.mul_one]; simp [bytesV, List.map_take]
    have bd : (bytesV l).drop (n * 1) = bytesV (l.drop n) := by rw [Nat.mul_one]; simp [bytesV, List.map_drop]
    refine ⟨⟨_, fun w' hO => ?_, hO1, hU1, h4⟩, ?_⟩
    · have := (h1 w' hO).drop (i := n) hn
      rw [bd] at this
      rw [List.length_drop]
      exact this
    · have := (h1 w1 hOb1).take (i := n) hn
      rw [bt] at this
      rw [List.length_take, Nat.min_eq_left hn]
      exact this

theorem rnum_nil (a : Value) (w : World) : CallsR Try.prog 65 #[.pointer none, a] w fun r w' => r = .int .u64 0 ∧ w' = w := by
  apply enc_Reader_num_sound
  unfold enc_Reader_num_x
  refine st_call (take_nil a w) ?_
  rintro _ w1 ⟨rfl, rfl⟩
  simp only [PX]
  refine st_loop (fun vs w' => vs.getD 2 undef = .int .u64 0 ∧ vs.getD 3 undef = .int .i64 0 ∧ w' = w1) (fun _ _ => 0) ⟨rfl, rfl, rfl⟩ ?_
  rintro dv vs w2 - ⟨e2, e3, rfl⟩
  simp (disch := omega) only [e2, e3, PX, BX]
  refine ⟨fun h => absurd h (by decide), fun _ => ?_⟩
  unfold enc_Reader_num_k1
  exact ⟨rfl, rfl⟩

theorem takeR_len (l : List UInt8) (e n : Nat) : (takeR l e n).1.length ≤ n := by
  unfold takeR
  split
  · simp
  · split
    · simp
    · simp; omega
theorem rnum_spec {W w : World} {F : List (Nat × Obj)} {g e : Nat} {hb : List (Nat × Obj)} {l : List UInt8} (n : Nat) (hn : n ≤ 8) (h : RI W F g hb l e w) :
    CallsR Try.prog 65 #[.pointer (some ⟨g, 0, none⟩), .int .i64 (n : Nat)] w fun r w' => RI W F g hb (takeR l e n).2.1 (takeR l e n).2.2 w' ∧ r = .int .u64 (leVal (takeR l e n).1 : Nat) := by
  apply enc_Reader_num_sound
  unfold enc_Reader_num_x
  refine st_call (take_spec n h) ?_
  rintro v w1 ⟨hR, hrd⟩
  have hbn := takeR_len l e n
  generalize (takeR l e n).1 = bs at *
  obtain ⟨A, c, rfl, hc, _, hcell⟩ := hrd
  simp only [PX]
  refine st_loop (fun vs w' => ∃ i : Nat, i ≤ bs.length ∧ vs.getD 2 undef = .int .u64 (leVal (bs.take i) : Nat) ∧ vs.getD 3 undef = .int .i64 i ∧ w' = w1) (fun vs _ => bs.length - (intOf (vs.getD 3 undef)).toNat) ⟨0, by omega, rfl, rfl, rfl⟩ ?_
  rintro dv vs w2 - ⟨i, hi, e2, e3, rfl⟩
  simp (disch := omega) only [e2, e3, PX, BX]
  refine ⟨fun hlt => ?_, fun hge => ?_⟩
  · have hlt' : i < bs.length := by omega
    obtain ⟨a, rfl, hx⟩ := hcell i (.int .u8 (bs[i].toNat : Nat)) (by simp [bytesV, hlt'])
    have hb8 := UInt8.toNat_lt bs[i]
    have hp : bs[i].toNat * 256 ^ i < 18446744073709551616 := by
      have h1 : 256 ^ i ≤ 256 ^ 7 := Nat.pow_le_pow_right (by omega) (by omega)
      have h2 : bs[i].toNat * 256 ^ i ≤ 255 * 256 ^ 7 := Nat.mul_le_mul (by omega) h1
      have h3 : (255 * 256 ^ 7 : Nat) < 18446744073709551616 := by decide
      omega
    have hsum : leVal (bs.take (i + 1)) < 18446744073709551616 := by
      have h1 := leVal_lt (bs.take (i + 1))
      have h2 : (bs.take (i + 1)).length ≤ 8 := by simp; omega
      have h3 : 256 ^ (bs.take (i + 1)).length ≤ 256 ^ 8 := Nat.pow_le_pow_right (by omega) h2
      have h4 : (256 ^ 8 : Nat) = 18446744073709551616 := by decide
      omega
    have hsn : leVal (bs.take (i + 1)) = leVal (bs.take i) + bs[i].toNat * 256 ^ i := by
      rw [List.take_succ_eq_append_getElem hlt', leVal_snoc, List.length_take, Nat.min_eq_left (by omega)]
    simp (disch := first | assumption | omega) only [PX, LX, wrapU64, w64]
    rw [Nat.mod_eq_of_lt (show bs[i].toNat < 18446744073709551616 by omega), shlU _ i (by omega), wrapU64, Nat.mod_eq_of_lt hp, ← Int.natCast_add, ← hsn, wrapU64, Nat.mod_eq_of_lt hsum]
    refine ⟨⟨i + 1, by omega, rfl, rfl, trivial⟩, ?_⟩
    simp only [List.getD_cons_succ, List.getD_cons_zero, intOf]; omega
  · obtain rfl : i = bs.length := by omega
    unfold enc_Reader_num_k1
    rw [List.take_length] at e2 ⊢
    exact ⟨hR, rfl⟩

theorem rByte_spec {W w : World} {F : List (Nat × Obj)} {g e : Nat} {hb : List (Nat × Obj)} {l : List UInt8} (h : RI W F g hb l e w) :
    CallsR Try.prog 54 #[.pointer (some ⟨g, 0, none⟩)] w fun r w' => RI W F g hb (takeR l e 1).2.1 (takeR l e 1).2.2 w' ∧ r = .int .u8 (leVal (takeR l e 1).1 : Nat) := by
  apply enc_Reader_Byte_sound
  unfold enc_Reader_Byte_x
  refine st_call (rnum_spec 1 (by omega) h) ?_
  rintro _ w1 ⟨hR, rfl⟩
  have h1 := leVal_lt (takeR l e 1).1
  have h2 := Nat.pow_le_pow_right (show 0 < 256 by omega) (takeR_len l e 1)
  simp only [PX, wrapU8]
  rw [Nat.mod_eq_of_lt (by omega)]
  exact ⟨hR, rfl⟩
theorem rTwo_spec {W w : World} {F : List (Nat × Obj)} {g e : Nat} {hb : List (Nat × Obj)} {l : List UInt8} (h : RI W F g hb l e w) :
    CallsR Try.prog 32 #[.pointer (some ⟨g, 0, none⟩)] w fun r w' => RI W F g hb (takeR l e 2).2.1 (takeR l e 2).2.2 w' ∧ r = .int .u16 (leVal (takeR l e 2).1 : Nat) := by
  apply enc_Reader_Two_sound
  unfold enc_Reader_Two_x
  refine st_call (rnum_spec 2 (by omega) h) ?_
  rintro _ w1 ⟨hR, rfl⟩
  have h1 := leVal_lt (takeR l e 2).1
  have h2 := Nat.pow_le_pow_right (show 0 < 256 by omega) (takeR_len l e 2)
  simp only [PX, wrapU16]
  rw [Nat.mod_eq_of_lt (by omega)]
  exact ⟨hR, rfl⟩
theorem rFour_spec {W w : World} {F : List (Nat × Obj)} {g e : Nat} {hb : List (Nat × Obj)} {l : List UInt8} (h : RI W F g hb l e w) :
    CallsR Try.prog 56 #[.pointer (some ⟨g, 0, none⟩)] w fun r w' => RI W F g hb (takeR l e 4).2.1 (takeR l e 4).2.2 w' ∧ r = .int .u32 (leVal (takeR l e 4).1 : Nat) := by
  apply enc_Reader_Four_sound
  unfold enc_Reader_Four_x
  refine st_call (rnum_spec 4 (by omega) h) ?_
  rintro _ w1 ⟨hR, rfl⟩
  have h1 := leVal_lt (takeR l e 4).1
  have h2 := Nat.pow_le_pow_right (show 0 < 256 by omega) (takeR_len l e 4)
  simp only [PX, wrapU32]
  rw [Nat.mod_eq_of_lt (by omega)]
  exact ⟨hR, rfl⟩
theorem rEight_spec {W w : World} {F : List (Nat × Obj)} {g e : Nat} {hb : List (Nat × Obj)} {l : List UInt8} (h : RI W F g hb l e w) :
    CallsR Try.prog 55 #[.pointer (some ⟨g, 0, none⟩)] w fun r w' => RI W F g hb (takeR l e 8).2.1 (takeR l e 8).2.2 w' ∧ r = .int .u64 (leVal (takeR l e 8).1 : Nat) := by
  apply enc_Reader_Eight_sound
  unfold enc_Reader_Eight_x
  exact st_call (rnum_spec 8 (by omega) h) fun _ _ h => h

/-- a text that is taken off: the text, what is left, the error -/
def textR (l : List UInt8) (e : Nat) (most : Int) : List UInt8 × List UInt8 × Nat :=
  if e ≠ 0 then ([], l, e) else if l.length < 2 then ([], l, 4) else if max most 0 < (leVal (l.take 2) : Int) then ([], l, 3) else
  if (l.drop 2).length < leVal (l.take 2) then ([], l, 4) else ((l.drop 2).take (leVal (l.take 2)), (l.drop 2).drop (leVal (l.take 2)), 0)

theorem rText_nil (a : Value) (w : World) : CallsR Try.prog 58 #[.pointer none, a] w fun r w' => r = .string ⟨#[]⟩ ∧ w' = w := by
  apply enc_Reader_Text_sound
  unfold enc_Reader_Text_x
  simp only [NP, BX]
  exact ⟨trivial, trivial⟩
theorem rText_spec {W w : World} {F : List (Nat × Obj)} {g e : Nat} {hb : List (Nat × Obj)} {l : List UInt8} (most : Int) (h : RI W F g hb l e w) :
    CallsR Try.prog 58 #[.pointer (some ⟨g, 0, none⟩), .int .i64 most] w fun r w' => RI W F g hb (textR l e most).2.1 (textR l e most).2.2 w' ∧ r = .string ⟨(textR l e most).1.toArray⟩ := by
  apply enc_Reader_Text_sound
  unfold enc_Reader_Text_x
  have h0 := h
  obtain ⟨v, h1, h2, h3, h4⟩ := h0
  have hOb := h2.sub (h' := hb) (.cons _ (List.sublist_append_left _ _))
  have hrd := h1 w hOb
  obtain ⟨A, c, rfl, hc, _⟩ := hrd
  have c0 : w.cell? ⟨g, 0, none⟩ = some (.slice A l.length c) := cell_at (h2.at_ 0 rfl)
  have c1 : w.cell? ⟨g, 1, none⟩ = some (.int .i64 (e : Nat)) := cell_at (h2.at_ 0 rfl)
  simp (disch := first | assumption | omega) only [NP, PX, BX, LX, add_mk, Nat.zero_add]
  refine ⟨fun he => ?_, fun he => ?_⟩
  · have : textR l e most = ([], l, e) := by unfold textR; rw [if_pos (by omega)]
    rw [this]
    exact ⟨h, rfl⟩
  have e0 : e = 0 := by omega
  subst e0
  refine st_call (rnum_spec 2 (by omega) h) ?_
  rintro _ w1 ⟨hR, rfl⟩
  -- the end: the bytes are taken off, or all stays
  have fin : ∀ (w2 : World) (l1 : List UInt8) (e1 n : Nat), RI W F g hb l1 e1 w2 → textR l 0 most = (if (takeR l1 e1 n).2.2 ≠ 0 then ([], l, (takeR l1 e1 n).2.2) else takeR l1 e1 n) →
      enc_Reader_Text_k1 (std Try.prog) (.pointer (some ⟨g, 0, none⟩)) (.slice A l.length c) (.int .i64 (n : Nat)) w2 fun r w' => RI W F g hb (textR l 0 most).2.1 (textR l 0 most).2.2 w' ∧ r = .string ⟨(textR l 0 most).1.toArray⟩ := by
    intro w2 l1 e1 n hR2 hT
    unfold enc_Reader_Text_k1
    refine st_call (take_spec n hR2) ?_
    rintro u w3 ⟨hR3, hrd3⟩
    rw [step_run (run_str u22 u5 u9 hrd3)]
    have hR3' := hR3
    obtain ⟨v3, k1, k2, k3, k4⟩ := hR3'
    have d1 : w3.cell? ⟨g, 1, none⟩ = some (.int .i64 ((takeR l1 e1 n).2.2 : Nat)) := cell_at (k2.at_ 0 rfl)
    simp (disch := first | assumption | omega) only [NP, PX, BX, LX, add_mk, Nat.zero_add]
    rw [hT]
    refine ⟨fun he => ?_, fun he => ?_⟩
    · rw [if_pos (by omega)]
      refine st_storeB sz22 rfl k3 k2 0 rfl (by simp) (.inr (Nat.zero_le _)) (.inr h4) ?_
      intro w4 hU4 hO4
      exact ⟨⟨_, h1, hO4, hU4, h4⟩, rfl⟩
    · rw [if_neg (by omega)]
      exact ⟨hR3, rfl⟩
  have hbn := takeR_len l 0 2
  have hlt := leVal_lt (takeR l 0 2).1
  have hpow := Nat.pow_le_pow_right (show 0 < 256 by omega) hbn
  have hR' := hR
  obtain ⟨v1, k1, k2, k3, k4⟩ := hR'
  have d1 : w1.cell? ⟨g, 1, none⟩ = some (.int .i64 ((takeR l 0 2).2.2 : Nat)) := cell_at (k2.at_ 0 rfl)
  simp (disch := first | assumption | omega) only [NP, PX, BX, LX, add_mk, Nat.zero_add, w64]
  by_cases hl2 : l.length < 2
  · have ht : takeR l 0 2 = ([], l, 4) := by unfold takeR; rw [if_neg (by omega), if_pos hl2]
    rw [ht] at hR ⊢
    refine ⟨fun h => absurd h (by show ¬ ((4 : Nat) : Int) = 0; decide), fun _ => ?_⟩
    refine fin w1 l 4 0 hR ?_
    unfold textR takeR
    rw [if_neg (by omega), if_pos hl2]
    rfl
  have ht : takeR l 0 2 = (l.take 2, l.drop 2, 0) := by unfold takeR; rw [if_neg (by omega), if_neg hl2]
  rw [ht] at hR k2 ⊢
  simp only at hR k2 ⊢
  refine ⟨fun _ => ⟨fun hm => ?_, fun hm => ?_⟩, fun h => absurd rfl h⟩
  · refine st_storeB sz34 rfl k3 k2 0 rfl (by simp) (.inr (Nat.zero_le _)) (.inr h4) ?_
    intro w2 hU2 hO2
    have hR2 : RI W F g hb (l.drop 2) 3 w2 := ⟨v1, by rw [ht] at k1; exact k1, hO2, hU2, h4⟩
    refine fin w2 (l.drop 2) 3 _ hR2 ?_
    unfold textR takeR
    rw [if_neg (by omega), if_neg hl2, if_pos (by split at hm <;> omega)]
    rfl
  · refine fin w1 (l.drop 2) 0 _ hR ?_
    have hm' : ¬ max most 0 < (leVal (l.take 2) : Int) := by split at hm <;> omega
    have t2 : takeR (l.drop 2) 0 (leVal (l.take 2)) = if (l.drop 2).length < leVal (l.take 2) then ([], l.drop 2, 4) else ((l.drop 2).take (leVal (l.take 2)), (l.drop 2).drop (leVal (l.take 2)), 0) := by unfold takeR; rw [if_neg (by omega)]
    unfold textR
    rw [if_neg (by omega), if_neg hl2, if_neg hm', t2]
    by_cases h5 : (l.drop 2).length < leVal (l.take 2)
    · simp only [if_pos h5]; rfl
    · simp only [if_neg h5]; rfl

theorem rErr_nil (w : World) : CallsR Try.prog 33 #[.pointer none] w fun r w' => r = .int .i64 1 ∧ w' = w := by
  apply enc_Reader_Err_sound
  unfold enc_Reader_Err_x
  simp only [NP, BX]
  exact ⟨trivial, trivial⟩
theorem rErr_spec {W w : World} {F : List (Nat × Obj)} {g e : Nat} {hb : List (Nat × Obj)} {l : List UInt8} (h : RI W F g hb l e w) :
    CallsR Try.prog 33 #[.pointer (some ⟨g, 0, none⟩)] w fun r w' => r = .int .i64 (e : Nat) ∧ w' = w := by
  apply enc_Reader_Err_sound
  unfold enc_Reader_Err_x
  obtain ⟨v, h1, h2, h3, h4⟩ := h
  have c1 : w.cell? ⟨g, 1, none⟩ = some (.int .i64 (e : Nat)) := cell_at (h2.at_ 0 rfl)
  simp (disch := first | assumption | omega) only [NP, PX, BX, LX, add_mk, Nat.zero_add]
  exact ⟨trivial, trivial⟩
def endR (l : List UInt8) (e : Nat) : Nat := if e = 0 ∧ l ≠ [] then 5 else e
theorem rEnd_nil (w : World) : CallsR Try.prog 59 #[.pointer none] w fun r w' => r = .int .i64 1 ∧ w' = w := by
  apply enc_Reader_End_sound
  unfold enc_Reader_End_x enc_Reader_End_k1
  refine st_call (rErr_nil w) ?_
  rintro _ w1 ⟨rfl, rfl⟩
  simp only [PX, BX]
  exact ⟨fun h => absurd h (by decide), fun _ => ⟨trivial, trivial⟩⟩
theorem rEnd_spec {W w : World} {F : List (Nat × Obj)} {g e : Nat} {hb : List (Nat × Obj)} {l : List UInt8} (h : RI W F g hb l e w) :
    CallsR Try.prog 59 #[.pointer (some ⟨g, 0, none⟩)] w fun r w' => r = .int .i64 (endR l e : Nat) ∧ w' = w := by
  apply enc_Reader_End_sound
  unfold enc_Reader_End_x enc_Reader_End_k1
  refine st_call (rErr_spec h) ?_
  rintro _ w1 ⟨rfl, rfl⟩
  obtain ⟨v, h1, h2, h3, h4⟩ := h
  obtain ⟨A, c, rfl, hc, _⟩ := h1 w1 (h2.sub (h' := hb) (.cons _ (List.sublist_append_left _ _)))
  have c0 : w1.cell? ⟨g, 0, none⟩ = some (.slice A l.length c) := cell_at (h2.at_ 0 rfl)
  simp (disch := first | assumption | omega) only [NP, PX, BX, LX, add_mk, Nat.zero_add]
  unfold endR
  refine ⟨fun he => ⟨fun hl => ?_, fun hl => ?_⟩, fun he => ?_⟩
  · rw [if_pos ⟨by omega, by intro h; subst h; simp at hl⟩]; exact ⟨rfl, trivial⟩
  · rw [if_neg (by rintro ⟨_, h⟩; exact h (List.eq_nil_of_length_eq_zero (by omega)))]; exact ⟨rfl, trivial⟩
  · rw [if_neg (by rintro ⟨h, _⟩; omega)]; exact ⟨rfl, trivial⟩
end Go.Proofs.Ytconmaojfkmlnaa.Enc
