/- Bursts. -/
import Derived.Test.YtpbejopmgnglnaaM2
namespace Go.Proofs.Ytpbejopmgnglnaa
open Go Xf Go.RowKit
set_option linter.unusedVariables false
set_option linter.unusedSimpArgs false
set_option maxRecDepth 100000

theorem wrap_u64 (a : Int) : IntKind.wrap .u64 a = a % 18446744073709551616 := by rw [IntKind.wrap_u64]
theorem xor_turn (x : UInt8) {r : Nat} (hr : r < 8) : bitOp .xor .u8 (x.toNat : Int) (IntKind.wrap .u8 (1 * 2 ^ (min (Int.toNat (r : Int)) (IntKind.bits .u8)))) = ((UInt8.ofNat (x.toNat ^^^ 2 ^ r)).toNat : Int) := by
  have h2 : 2 ^ r < 256 := Nat.pow_lt_pow_right (a := 2) (n := 8) (by omega) hr
  rw [show min (Int.toNat (r : Int)) (IntKind.bits .u8) = r by simp [IntKind.bits]; omega, Int.one_mul, show ((2 : Int) ^ r) = ((2 ^ r : Nat) : Int) by norm_cast, wrap_u8, Nat.mod_eq_of_lt h2, bit_xor8 (byte_lt x) h2, ofNat_toNat,
    Nat.mod_eq_of_lt (Nat.xor_lt_two_pow (n := 8) (byte_lt x) h2)]
theorem openL_turned (s s' : List UInt8) (t : List UInt8) (hs : s = t ++ le4 (more 0 t)) (hl : s'.length = s.length) (fr bits : Nat) (hb : bits < 4294967296) (hb0 : bits ≠ 0) (hf : fr ≤ 8 * s.length)
    (hn : num s' = num s ^^^ (2 ^ fr * bits)) : openL s' = ([], 6) := by
  have h4 : 4 ≤ s.length := by rw [hs]; simp [le4]
  unfold openL
  rw [if_neg (by omega), if_neg]
  intro h
  refine hb0 (turned s s' t (s'.take (s'.length - 4)) hs ?_ hl fr bits hb hf hn)
  rw [← h, List.take_append_drop]

theorem CrcBursts_spec (w : World) (vb : Value) (b : List UInt8) (at_ : Int) (bits : Nat) (hbits : bits < 4294967296) (hb : b.length ≤ 140737488351232) (hrb : Rd w 1 vb b.length (bytesV b)) :
    CallsR Try.prog 8 #[vb, .int .i64 at_, .int .u32 bits] w fun r w' => r = .bool true ∧ Upd w w' [] := by
  apply flotillalaw02_CrcBursts_sound
  unfold flotillalaw02_CrcBursts_x
  have hra' := hrb
  obtain ⟨A, c, rfl, -⟩ := hra'
  simp (disch := omega) only [PX, BX]
  refine ⟨fun h => ?_, fun h0 => ⟨fun h => ?_, fun h5 => ?_⟩⟩
  · exact st_call (lives_spec w) fun v w' hv => hv
  · exact st_call (lives_spec w) fun v w' hv => hv
  refine st_call (Seal_spec w _ b (by omega) hrb) ?_
  rintro sv w2 hS
  obtain ⟨hs, hrs, hOs, hUs, hfs⟩ := hS
  rcases hrs.2 with ⟨_, h00, _⟩ | ⟨gs, scap, scs, rfl, rfl, hsn, hsm, hss, hst⟩
  · simp [le4] at h00
  have hlen : (b ++ le4 (more 0 b)).length = b.length + 4 := by simp [le4]
  generalize hsb : b ++ le4 (more 0 b) = s at *
  rw [Nat.mul_one] at hst
  simp (disch := omega) only [PX, BX, w64]
  refine ⟨fun hd => absurd hd (by omega), fun _ => ?_⟩
  have hm0 : IntKind.wrap .u64 (8 * (s.length : Int) - 31) = 8 * (s.length : Int) - 31 := by rw [wrap_u64]; omega
  rw [hm0]
  have hu : ∃ fr : Nat, fr < 8 * s.length - 31 ∧ Int.tmod (IntKind.wrap .u64 at_) (8 * (s.length : Int) - 31) = fr := by
    have h1 : 0 ≤ IntKind.wrap .u64 at_ := by rw [wrap_u64]; omega
    have h2 := Int.tmod_lt_of_pos (IntKind.wrap .u64 at_) (b := 8 * (s.length : Int) - 31) (by omega)
    have h3 := Int.tmod_nonneg (8 * (s.length : Int) - 31) h1
    exact ⟨(Int.tmod (IntKind.wrap .u64 at_) (8 * (s.length : Int) - 31)).toNat, by omega, by omega⟩
  obtain ⟨fr, hfr, he⟩ := hu
  simp (disch := omega) only [PX, BX, he, w64]
  have hgs : w.heap.size ≤ gs := hfs _ (List.mem_singleton_self _)
  refine st_loop (fun vs w' => ∃ (i : Nat) (ds : Array Value) (sb : List UInt8), i ≤ 32 ∧ vs.getD 0 undef = .int .i64 i ∧ Upd w w' [] ∧ Owns w' [(gs, .cells ds 5 (0, 0))] ∧ ds.size = scs.size ∧ sb.length = s.length ∧ ds.toList.take s.length = bytesV sb ∧ num sb = num s ^^^ (2 ^ fr * (bits % 2 ^ i)))
    (fun vs _ => 32 - (intOf (vs.getD 0 undef)).toNat) ⟨0, scs, s, by omega, rfl, hUs, hOs, rfl, rfl, hst, by simp [Nat.mod_one]⟩ ?_
  rintro dv vs w4 - ⟨i, ds, sb, hi, e0, hU4, hO4, hds, hsl, htake, hnum⟩
  simp (disch := omega) only [e0, PX, BX]
  refine ⟨fun hlt => ?_, fun hge => ?_⟩
  · have hi' : i < 32 := by omega
    rw [shr_u32 bits i (by omega)]
    have hq : bits / 2 ^ i < 4294967296 := Nat.lt_of_le_of_lt (Nat.div_le_self _ _) hbits
    rw [bit_and1 hq]
    have hsucc := bits_succ bits i
    have goOn : ∀ (w5 : World) (ds5 : Array Value) (sb5 : List UInt8), Upd w w5 [] → Owns w5 [(gs, .cells ds5 5 (0, 0))] → ds5.size = scs.size → sb5.length = s.length → ds5.toList.take s.length = bytesV sb5 → num sb5 = num s ^^^ (2 ^ fr * (bits % 2 ^ (i + 1))) →
        flotillalaw02_CrcBursts_k3 (std Try.prog) vs (fun vs' w' => (∃ (i : Nat) (ds : Array Value) (sb : List UInt8), i ≤ 32 ∧ vs'.getD 0 undef = .int .i64 i ∧ Upd w w' [] ∧ Owns w' [(gs, .cells ds 5 (0, 0))] ∧ ds.size = scs.size ∧ sb.length = s.length ∧ ds.toList.take s.length = bytesV sb ∧ num sb = num s ^^^ (2 ^ fr * (bits % 2 ^ i)))
          ∧ 32 - (intOf (vs'.getD 0 undef)).toNat < 32 - (intOf (Value.int IntKind.i64 (i : Int))).toNat) w5 fun r w' => r = .bool true ∧ Upd w w' [] := by
      intro w5 ds5 sb5 hU5 hO5 h1 h2 h3 h4
      unfold flotillalaw02_CrcBursts_k3
      simp (disch := omega) only [e0, PX, w64]
      refine ⟨⟨i + 1, ds5, sb5, by omega, rfl, hU5, hO5, h1, h2, h3, h4⟩, ?_⟩
      simp only [List.getD_cons_zero, intOf]; omega
    refine ⟨fun hbit => ?_, fun hbit => ?_⟩
    · rw [if_pos (by omega)] at hsucc
      have hk8 : (fr + i) / 8 < s.length := by omega
      have e8 : Int.tdiv ((fr : Int) + i) 8 = (((fr + i) / 8 : Nat) : Int) := tdv (fr + i) 8
      have m8 : Int.tmod ((fr : Int) + i) 8 = (((fr + i) % 8 : Nat) : Int) := tmod_nat (fr + i) 8
      have hcell : ds[0 + (((fr + i) / 8 : Nat) : Int).toNat * 1]? = some (.int .u8 (sb.getD ((fr + i) / 8) 0).toNat) := by
        have h1 : (ds.toList.take s.length)[(fr + i) / 8]? = (bytesV sb)[(fr + i) / 8]? := by rw [htake]
        rw [List.getElem?_take, if_pos hk8] at h1
        rw [show 0 + (((fr + i) / 8 : Nat) : Int).toNat * 1 = (fr + i) / 8 by omega, ← Array.getElem?_toList, h1]
        simp [bytesV, List.getD, show (fr + i) / 8 < sb.length by omega]
      have hne : ∃ w', (fun w' => Upd w4 w' []) w' := ⟨w4, Upd.refl w4 []⟩
      refine st_draw (fun w' => Upd w4 w' []) (Upd.drew w4 []) ?_
      have hld : ∀ w', Upd w4 w' [] → (sLoad 5 (.pointer (some ⟨gs, 0 + (((fr + i) / 8 : Nat) : Int).toNat * 1, none⟩))).run Try.prog w' = .ok (.value (.int .u8 (sb.getD ((fr + i) / 8) 0).toNat)) w' := fun w' hw =>
        run_sLoad (run_loadVar1 ag5 ((cell_at ((hO4.ext hw).at_ 0 rfl)).trans hcell))
      simp (disch := first | exact hne | omega) only [SX, e8, m8, w64]
      rw [stepS_run hne fun w' hw => run_idxS u22 sz5 (by omega) (by omega), add_mk, stepS_run hne hld]
      simp (disch := first | exact hne | omega) only [SX, e8, m8, w64]
      rw [xor_turn _ (by omega)]
      rw [stepS_run hne fun w' hw => run_idxS u22 sz5 (by omega) (by omega), add_mk]
      have hin := (Array.getElem?_eq_some_iff.1 hcell).1
      refine st_storeB sz5 rfl (hU4.trans (Upd.drew w4 [])) (hO4.ext (Upd.drew w4 [])) 0 rfl hin (.inr (Nat.zero_le _)) (.inr hgs) ?_
      intro w5 hU5 hO5
      refine st_keepT (fun w' => Upd w w' []) hU5 ?_
      refine goOn w5 _ (sb.set ((fr + i) / 8) (UInt8.ofNat ((sb.getD ((fr + i) / 8) 0).toNat ^^^ 2 ^ ((fr + i) % 8)))) hU5 hO5 (by simp [hds]) (by simp [hsl]) ?_ ?_
      · rw [show 0 + (((fr + i) / 8 : Nat) : Int).toNat * 1 = (fr + i) / 8 by omega, Array.toList_setIfInBounds, List.take_set, htake]
        simp [bytesV, List.map_set]
      · rcases num_turn sb ((fr + i) / 8) ((fr + i) % 8) (by omega) with h | h
        · rw [h, hnum, hsucc, mulp_xor, ← Nat.pow_add, Nat.xor_assoc, show 8 * ((fr + i) / 8) + (fr + i) % 8 = fr + i by omega]
        · omega
    · rw [if_neg (by omega), Nat.xor_zero] at hsucc
      exact goOn w4 ds sb hU4 hO4 hds hsl htake (by rw [hsucc]; exact hnum)
  · obtain rfl : i = 32 := by omega
    rw [show (2 : Nat) ^ 32 = 4294967296 from rfl, Nat.mod_eq_of_lt hbits] at hnum
    have hop := openL_turned s sb b hsb.symm hsl fr bits hbits (by omega) (by omega) hnum
    unfold flotillalaw02_CrcBursts_k1
    have hrd : Rd w4 1 (.slice (some ⟨gs, 0, none⟩) s.length scap) s.length (bytesV sb) := rd_row (hO4.at_ 0 rfl) (by rw [bytesV_len, hsl]) hsn htake
    rw [← hsl] at hrd
    rw [← hsl]
    refine st_call (Open_spec w4 _ sb (by omega) hrd) ?_
    rintro _ w5 ⟨x, rfl, hN⟩
    rw [hop] at hN
    rw [px_ext20, px_ext21, hop]
    obtain ⟨hx, hrx, hOx, hUx, hfx⟩ := hN
    have hU5 := hU4.trans hUx
    obtain ⟨X, cx, rfl, -⟩ : Rd w5 1 x ([] : List UInt8).length (bytesV []) := hrx.rd (F := []) (by simpa using hOx)
    rw [px_eql, bool_dec]
    refine ⟨fun _ => ?_, fun hd => absurd rfl hd⟩
    simp (disch := omega) only [PX]
    rw [bool_dec]
    refine ⟨fun _ => ?_, fun hd => absurd rfl hd⟩
    refine st_call (lives_spec w5) ?_
    rintro _ w6 ⟨rfl, hU6⟩
    exact ⟨rfl, hU5.trans hU6⟩

end Go.Proofs.Ytpbejopmgnglnaa
