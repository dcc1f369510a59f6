/- Ported from another seat (enc/S5.lean). -/
import Derived.Test.YtconmaojfkmlnaaEncR
namespace Go.Proofs.Ytconmaojfkmlnaa.Enc
open Go Go.Proofs.Ytconmaojfkmlnaa Xf Go.RowKit
set_option linter.unusedVariables false
set_option linter.unusedSimpArgs false
set_option maxRecDepth 100000
theorem leB_mod (n k : Nat) : leB (n % 256 ^ k) k = leB n k := by
  unfold leB
  apply List.map_congr_left
  intro i hi
  have hi := List.mem_range.1 hi
  obtain ⟨d, rfl⟩ : ∃ d, k = i + (d + 1) := ⟨k - i - 1, by omega⟩
  apply UInt8.toNat_inj.1
  rw [ofNat_toNat8, ofNat_toNat8, Nat.pow_add, Nat.mod_mul_right_div_self, Nat.pow_succ, Nat.mul_comm (256 ^ d), Nat.mod_mul_right_mod]

theorem Byte_nil (a : Int) (w : World) : CallsR Try.prog 49 #[.pointer none, .int .u8 a] w fun r w' => w' = w := by
  apply enc_Writer_Byte_sound
  unfold enc_Writer_Byte_x
  simp only [PX]
  exact st_call (num_nil _ _ w) fun _ _ h => h
theorem Two_nil (a : Int) (w : World) : CallsR Try.prog 37 #[.pointer none, .int .u16 a] w fun r w' => w' = w := by
  apply enc_Writer_Two_sound
  unfold enc_Writer_Two_x
  simp only [PX]
  exact st_call (num_nil _ _ w) fun _ _ h => h
theorem Four_nil (a : Int) (w : World) : CallsR Try.prog 51 #[.pointer none, .int .u32 a] w fun r w' => w' = w := by
  apply enc_Writer_Four_sound
  unfold enc_Writer_Four_x
  simp only [PX]
  exact st_call (num_nil _ _ w) fun _ _ h => h
theorem Eight_nil (a : Int) (w : World) : CallsR Try.prog 50 #[.pointer none, .int .u64 a] w fun r w' => w' = w := by
  apply enc_Writer_Eight_sound
  unfold enc_Writer_Eight_x
  exact st_call (num_nil _ _ w) fun _ _ h => h
theorem Text_nil (s : ByteArray) (w : World) : CallsR Try.prog 52 #[.pointer none, .string s] w fun r w' => w' = w := by
  apply enc_Writer_Text_sound
  unfold enc_Writer_Text_x
  simp only [NP, BX]
theorem refNum_spec (w : World) (n k : Nat) (hk : k ≤ 8) (hn : n < 18446744073709551616) : CallsR Try.prog 47 #[.int .u64 (n : Nat), .int .i64 (k : Nat)] w fun r w' => r = .string ⟨(leB n k).toArray⟩ ∧ Upd w w' [] := by
  apply flotillaref01_Num_sound
  unfold flotillaref01_Num_x
  refine st_loop (fun vs w' => ∃ i : Nat, i ≤ k ∧ vs.getD 0 undef = .string ⟨(leB n i).toArray⟩ ∧ vs.getD 1 undef = .int .u64 (n / 256 ^ i : Nat) ∧ vs.getD 2 undef = .int .i64 i ∧ Upd w w' []) (fun vs _ => k - (intOf (vs.getD 2 undef)).toNat) ⟨0, by omega, rfl, by simp, rfl, Upd.refl w []⟩ ?_
  rintro dv vs w1 - ⟨i, hi, e0, e1, e2, hU1⟩
  simp (disch := omega) only [e0, e1, e2, PX, BX]
  refine ⟨fun hlt => ?_, fun hge => ?_⟩
  · rw [show Int.tmod ((n / 256 ^ i : Nat) : Int) 256 = ((n / 256 ^ i % 256 : Nat) : Int) from tmod_nat _ 256, wrapU8, show n / 256 ^ i % 256 % 256 = (UInt8.ofNat (n / 256 ^ i)).toNat by simp]
    refine st_newRow (one_byte _) hU1 (Owns.nil w1) ?_
    intro g w2 hU2 hO2 hg
    rw [step_run (run_str (l := [UInt8.ofNat (n / 256 ^ i)]) u22 u5 u9 (rd_row (n := 1) (c := 1) (hO2.at_ 0 rfl) rfl (by omega) rfl))]
    have hlen : (⟨(leB n i).toArray⟩ : ByteArray).size + (⟨[UInt8.ofNat (n / 256 ^ i)].toArray⟩ : ByteArray).size ≤ 9223372036854775807 := by rw [size_mk, size_mk, leB_len]; simp; omega
    rw [px_sadd hlen, mk_append, ← leB_succ]
    rw [show Int.tdiv ((n / 256 ^ i : Nat) : Int) 256 = ((n / 256 ^ i / 256 : Nat) : Int) from tdiv_nat _ 256, wrapU64, Nat.div_div_eq_div_mul, ← Nat.pow_succ, Nat.mod_eq_of_lt (Nat.lt_of_le_of_lt (Nat.div_le_self _ _) hn), w64 (by omega) (by omega)]
    refine ⟨⟨i + 1, by omega, rfl, rfl, rfl, hU2⟩, ?_⟩
    simp only [List.getD_cons_succ, List.getD_cons_zero, intOf]; omega
  · obtain rfl : i = k := by omega
    unfold flotillaref01_Num_k1
    exact ⟨rfl, hU1⟩
theorem refText_spec (w : World) (s : List UInt8) : CallsR Try.prog 48 #[.string ⟨s.toArray⟩] w fun r w' => r = .string ⟨(textB s).toArray⟩ ∧ Upd w w' [] := by
  apply flotillaref01_Text_sound
  unfold flotillaref01_Text_x
  have rest : ∀ t : List UInt8, t.length ≤ 65535 → flotillaref01_Text_k1 (std Try.prog) (.string ⟨t.toArray⟩) w fun r w' => r = .string ⟨(leB t.length 2 ++ t).toArray⟩ ∧ Upd w w' [] := by
    intro t ht
    unfold flotillaref01_Text_k1
    simp only [PX, size_mk, wrapU64, Nat.mod_eq_of_lt (show t.length < 18446744073709551616 by omega)]
    refine st_call (refNum_spec w t.length 2 (by omega) (by omega)) ?_
    rintro _ w1 ⟨rfl, hU1⟩
    have hlen : (⟨(leB t.length 2).toArray⟩ : ByteArray).size + (⟨t.toArray⟩ : ByteArray).size ≤ 9223372036854775807 := by rw [size_mk, size_mk, leB_len]; omega
    rw [px_sadd hlen, mk_append]
    exact ⟨rfl, hU1⟩
  simp only [BX, PX, size_mk]
  refine ⟨fun hbig => ?_, fun hsm => ?_⟩
  · rw [step_run (run_strTo (i := 65535) u9 (by omega) (by omega))]
    have := rest (s.take 65535) (by simp; omega)
    unfold textB
    rw [Nat.min_eq_right (by omega)]
    rw [List.length_take, Nat.min_eq_left (by omega)] at this
    exact this
  · have := rest s (by omega)
    unfold textB
    rw [Nat.min_eq_left (by omega), List.take_of_length_le (by omega)]
    exact this

theorem NewB.rd {w w' : World} {r : Value} {l : List UInt8} (h : NewB w w' r l) : Rd w' 1 r l.length (bytesV l) := by
  obtain ⟨hh, h1, h2, _⟩ := h
  exact h1.rd (F := []) (by rw [List.append_nil]; exact h2)
theorem NewB.upd {w w' : World} {r : Value} {l : List UInt8} (h : NewB w w' r l) : Upd w w' [] := by
  obtain ⟨_, _, _, h, _⟩ := h; exact h

theorem owns_old {W w : World} {H : List (Nat × Obj)} {g : Nat} {o : Obj} (hO : Owns w H) (hH : ∀ p ∈ H, W.heap.size ≤ p.1) (hg : g < W.heap.size) (ho : w.heap[g]? = some o) : Owns w ((g, o) :: H) := by
  refine ⟨?_, fun q hq => ?_⟩
  · rw [List.map_cons]
    refine List.nodup_cons.2 ⟨fun hm => ?_, hO.1⟩
    obtain ⟨q, hq, he⟩ := List.mem_map.1 hm
    have := hH q hq
    omega
  · rcases List.mem_cons.1 hq with rfl | hq
    · exact ho
    · exact hO.2 q hq
theorem owns_app {w w' : World} {H h : List (Nat × Obj)} (hO : Owns w H) (hU : Upd w w' []) (hOh : Owns w' h) (hh : ∀ p ∈ h, w.heap.size ≤ p.1) : Owns w' (h ++ H) := by
  refine ⟨?_, fun q hq => ?_⟩
  · rw [List.map_append]
    refine List.nodup_append.2 ⟨hOh.1, hO.1, fun a ha b hb he => ?_⟩
    obtain ⟨p, hp, rfl⟩ := List.mem_map.1 ha
    obtain ⟨q, hq, rfl⟩ := List.mem_map.1 hb
    have h1 := hh p hp
    have h2 := hO.lt hq
    omega
  · rcases List.mem_append.1 hq with hq | hq
    · exact hOh.2 q hq
    · exact (hO.ext hU).2 q hq

theorem takeR_one {l : List UInt8} {i : Nat} (hi : i < l.length) : takeR (l.drop i) 0 1 = ([l[i]], l.drop (i + 1), 0) := by
  unfold takeR
  rw [if_neg (by omega), if_neg (by simp; omega), List.drop_eq_getElem_cons hi]
  rfl
theorem textB_len (s : List UInt8) : (textB s).length = 2 + min s.length 65535 := by
  unfold textB
  rw [List.length_append, leB_len, List.length_take, Nat.min_comm]

theorem RI.base {W W1 w : World} {F hb : List (Nat × Obj)} {g e : Nat} {l : List UInt8} (h : RI W1 F g hb l e w) (hU : Upd W W1 []) : RI W F g hb l e w := by
  obtain ⟨v, h1, h2, h3, h4⟩ := h
  exact ⟨v, h1, h2, hU.trans h3, Nat.le_trans hU.size h4⟩

theorem takeR_leB (n k : Nat) (rest : List UInt8) : takeR (leB n k ++ rest) 0 k = (leB n k, rest, 0) := by
  unfold takeR
  rw [if_neg (by omega), if_neg (by rw [List.length_append, leB_len]; omega), List.take_append_of_le_length (by rw [leB_len]; exact Nat.le_refl _), List.take_of_length_le (by rw [leB_len]; exact Nat.le_refl _), List.drop_append, List.drop_of_length_le (by rw [leB_len]; exact Nat.le_refl _), leB_len, Nat.sub_self]
  rfl
theorem textB_parts (s rest : List UInt8) (hs : s.length ≤ 65535) : (textB s ++ rest).take 2 = leB s.length 2 ∧ (textB s ++ rest).drop 2 = s ++ rest := by
  have : textB s = leB s.length 2 ++ s := by unfold textB; rw [Nat.min_eq_left hs, List.take_of_length_le hs]
  rw [this, List.append_assoc]
  exact ⟨List.take_left' (leB_len _ _), List.drop_left' (leB_len _ _)⟩
theorem leVal_len {s : List UInt8} (hs : s.length ≤ 65535) : leVal (leB s.length 2) = s.length := by
  rw [leVal_leB]; exact Nat.mod_eq_of_lt (by omega)
theorem textR_back (s rest : List UInt8) (hs : s.length ≤ 65535) : textR (textB s ++ rest) 0 65535 = (s, rest, 0) := by
  obtain ⟨h1, h2⟩ := textB_parts s rest hs
  have hl := textB_len s
  unfold textR
  rw [if_neg (by omega), if_neg (by rw [List.length_append]; omega), h1, h2, leVal_len hs, if_neg (by omega), if_neg (by rw [List.length_append]; omega), List.take_left' rfl, List.drop_left' rfl]

end Go.Proofs.Ytconmaojfkmlnaa.Enc
