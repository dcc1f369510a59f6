/- Things laid. -/
import Derived.Test.YtibacmekhkaipaaS4
namespace Go.Proofs.Ytibacmekhkaipaa
open Go Xf Go.RowKit
set_option linter.unusedVariables false
set_option linter.unusedSimpArgs false
set_option maxRecDepth 100000

structure Th where
  kind : Int
  n : Nat
  s : List UInt8
def thV (t : Th) : List Value := [.int .i64 t.kind, .int .u64 (t.n : Nat), .string ⟨t.s.toArray⟩]
theorem thV_of (row : List Value) (h : RowOk [.int .i64, .int .u64, .str] row) : ∃ o, row = thV o ∧ o.n < 18446744073709551616 := by
  obtain ⟨hl, hk⟩ := h
  obtain ⟨_, e0, n0, rfl, w0⟩ := hk 0 _ rfl
  obtain ⟨_, e1, n1, rfl, w1⟩ := hk 1 _ rfl
  obtain ⟨_, e2, n2, rfl⟩ := hk 2 _ rfl
  simp only [Lit.wf, Bool.and_eq_true, decide_eq_true_eq] at w1
  have m1 : IntKind.min .u64 = 0 := by decide
  have m2 : IntKind.max .u64 = 18446744073709551615 := by decide
  rw [m1, m2] at w1
  refine ⟨⟨n0, n1.toNat, n2⟩, ?_, by simp only; omega⟩
  match row, hl with
  | [a, b, c], _ =>
    simp at e0 e1 e2; subst e0 e1 e2
    unfold thV
    rw [show ((n1.toNat : Nat) : Int) = n1 by omega]

def kN (k : Int) : Nat := (k % 18446744073709551616).toNat % 5
theorem wrapU64i (k : Int) : IntKind.wrap .u64 k = (((k % 18446744073709551616).toNat : Nat) : Int) := by
  have : IntKind.wrap .u64 k = k % 18446744073709551616 := by simp [IntKind.wrap, IntKind.bits, IntKind.signed]
  rw [this]; omega
theorem ld36 {g : Nat} {t : Th} {w : World} {K : Value → World → Prop} (h : w.heap[g]? = some (.cells (thV t).toArray 36 (0, 0))) :
    (std Try.prog).step (sLoad 36 (.pointer (some ⟨g, 0, none⟩))) w K = K (.agg (thV t).toArray) w :=
  step_run (run_sLoad (run_loadVarN (cs := thV t) ag36 (by rw [sz36]; rfl) (cells_read h)))
theorem kind_spec (w : World) (t : Th) : CallsR Try.prog 32 #[.agg (thV t).toArray] w fun r w' => r = .int .i64 (kN t.kind : Nat) ∧ Upd w w' [] := by
  apply flotillalaw01_kind_sound
  unfold flotillalaw01_kind_x
  refine st_box (Upd.refl w []) (Owns.nil w) ?_
  intro g w1 hU1 hO1 hg
  have c0 : w1.cell? ⟨g, 0, none⟩ = some (.int .i64 t.kind) := cell_at (hO1.at_ 0 rfl)
  simp (disch := first | assumption | omega) only [PX, LX]
  rw [wrapU64i, show Int.tmod (((t.kind % 18446744073709551616).toNat : Nat) : Int) 5 = ((kN t.kind : Nat) : Int) from tmod_nat _ 5, w64 (by omega) (by unfold kN; omega)]
  exact ⟨rfl, hU1⟩

/-- a thing as it is laid -/
def thB (t : Th) : List UInt8 := match kN t.kind with
  | 0 => leB t.n 1
  | 1 => leB t.n 2
  | 2 => leB t.n 4
  | 3 => leB t.n 8
  | _ => textB t.s
theorem kN_lt (k : Int) : kN k < 5 := by unfold kN; omega
theorem thB_len (t : Th) : (thB t).length ≤ 65537 := by
  unfold thB
  split <;> first | (rw [leB_len]; omega) | (rw [textB_len]; omega)
theorem leB_mod (n k : Nat) : leB (n % 256 ^ k) k = leB n k := by
  unfold leB
  apply List.map_congr_left
  intro i hi
  have hi := List.mem_range.1 hi
  obtain ⟨d, rfl⟩ : ∃ d, k = i + (d + 1) := ⟨k - i - 1, by omega⟩
  apply UInt8.toNat_inj.1
  rw [ofNat_toNat8, ofNat_toNat8, Nat.pow_add, Nat.mod_mul_right_div_self, Nat.pow_succ, Nat.mul_comm (256 ^ d), Nat.mod_mul_right_mod]

theorem lay_spec {W w : World} {F : List (Nat × Obj)} {g : Nat} {l : List UInt8} (t : Th) (hl : l.length + 70000 ≤ 140737488355000) (h : WI W F g l w) :
    CallsR Try.prog 14 #[.pointer (some ⟨g, 0, none⟩), .agg (thV t).toArray] w fun r w' => WI W F g (l ++ thB t) w' := by
  apply flotillalaw01_lay_sound
  unfold flotillalaw01_lay_x
  refine st_box (Upd.refl w []) (Owns.nil w) ?_
  intro g3 w1 hU1 hO1 hg3
  have hW1 : WI W ((g3, .cells (thV t).toArray 36 (0, 0)) :: F) g l w1 := h.push hU1 (hO1.at_ 0 rfl) hg3
  rw [ld36 (hO1.at_ 0 rfl)]
  refine st_call (kind_spec w1 t) ?_
  rintro _ w2 ⟨rfl, hU2⟩
  have hW2 := hW1.ext hU2
  have hO2 := hO1.ext hU2
  have c1 : w2.cell? ⟨g3, 1, none⟩ = some (.int .u64 (t.n : Nat)) := cell_at (hO2.at_ 0 rfl)
  have c2 : w2.cell? ⟨g3, 2, none⟩ = some (.string ⟨t.s.toArray⟩) := cell_at (hO2.at_ 0 rfl)
  have hk := kN_lt t.kind
  simp (disch := first | assumption | omega) only [PX, BX, LX, add_mk, Nat.zero_add, wrapU8, wrapU16, wrapU32]
  refine ⟨fun h0 => ?_, fun h0 => ⟨fun h1 => ?_, fun h1 => ⟨fun h2 => ?_, fun h2 => ⟨fun h3 => ?_, fun h3 => ?_⟩⟩⟩⟩
  · refine st_call (Byte_spec (t.n % 256) (by omega) (by omega) hW2) fun _ w3 hW3 => ?_
    have : thB t = leB t.n 1 := by unfold thB; simp only [show kN t.kind = 0 by omega]
    rw [this, ← leB_mod t.n 1]
    exact hW3.pop
  · refine st_call (Two_spec (t.n % 65536) (by omega) (by omega) hW2) fun _ w3 hW3 => ?_
    have : thB t = leB t.n 2 := by unfold thB; simp only [show kN t.kind = 1 by omega]
    rw [this, ← leB_mod t.n 2]
    exact hW3.pop
  · refine st_call (Four_spec (t.n % 4294967296) (by omega) (by omega) hW2) fun _ w3 hW3 => ?_
    have : thB t = leB t.n 4 := by unfold thB; simp only [show kN t.kind = 2 by omega]
    rw [this, ← leB_mod t.n 4]
    exact hW3.pop
  · refine st_call (Eight_spec t.n (by omega) hW2) fun _ w3 hW3 => ?_
    have : thB t = leB t.n 8 := by unfold thB; simp only [show kN t.kind = 3 by omega]
    rw [this]
    exact hW3.pop
  · refine st_call (Text_spec t.s (by omega) hW2) fun _ w3 hW3 => ?_
    have : thB t = textB t.s := by unfold thB; simp only [show kN t.kind = 4 by omega]
    rw [this]
    exact hW3.pop
theorem Byte_nil (a : Int) (w : World) : CallsR Try.prog 33 #[.pointer none, .int .u8 a] w fun r w' => w' = w := by
  apply enc_Writer_Byte_sound
  unfold enc_Writer_Byte_x
  simp only [PX]
  exact st_call (num_nil _ _ w) fun _ _ h => h
theorem Two_nil (a : Int) (w : World) : CallsR Try.prog 30 #[.pointer none, .int .u16 a] w fun r w' => w' = w := by
  apply enc_Writer_Two_sound
  unfold enc_Writer_Two_x
  simp only [PX]
  exact st_call (num_nil _ _ w) fun _ _ h => h
theorem Four_nil (a : Int) (w : World) : CallsR Try.prog 34 #[.pointer none, .int .u32 a] w fun r w' => w' = w := by
  apply enc_Writer_Four_sound
  unfold enc_Writer_Four_x
  simp only [PX]
  exact st_call (num_nil _ _ w) fun _ _ h => h
theorem Eight_nil (a : Int) (w : World) : CallsR Try.prog 35 #[.pointer none, .int .u64 a] w fun r w' => w' = w := by
  apply enc_Writer_Eight_sound
  unfold enc_Writer_Eight_x
  exact st_call (num_nil _ _ w) fun _ _ h => h
theorem Text_nil (s : ByteArray) (w : World) : CallsR Try.prog 12 #[.pointer none, .string s] w fun r w' => w' = w := by
  apply enc_Writer_Text_sound
  unfold enc_Writer_Text_x
  simp only [NP, BX]
theorem lay_nil (w : World) (t : Th) : CallsR Try.prog 14 #[.pointer none, .agg (thV t).toArray] w fun r w' => Upd w w' [] := by
  apply flotillalaw01_lay_sound
  unfold flotillalaw01_lay_x
  refine st_box (Upd.refl w []) (Owns.nil w) ?_
  intro g3 w1 hU1 hO1 hg3
  rw [ld36 (hO1.at_ 0 rfl)]
  refine st_call (kind_spec w1 t) ?_
  rintro _ w2 ⟨rfl, hU2⟩
  have hO2 := hO1.ext hU2
  have c1 : w2.cell? ⟨g3, 1, none⟩ = some (.int .u64 (t.n : Nat)) := cell_at (hO2.at_ 0 rfl)
  have c2 : w2.cell? ⟨g3, 2, none⟩ = some (.string ⟨t.s.toArray⟩) := cell_at (hO2.at_ 0 rfl)
  have hU := hU1.trans hU2
  simp (disch := first | assumption | omega) only [PX, BX, LX, add_mk, Nat.zero_add]
  refine ⟨fun h0 => ?_, fun h0 => ⟨fun h1 => ?_, fun h1 => ⟨fun h2 => ?_, fun h2 => ⟨fun h3 => ?_, fun h3 => ?_⟩⟩⟩⟩
  · exact st_call (Byte_nil _ w2) fun _ w3 h => by rw [h]; exact hU
  · exact st_call (Two_nil _ w2) fun _ w3 h => by rw [h]; exact hU
  · exact st_call (Four_nil _ w2) fun _ w3 h => by rw [h]; exact hU
  · exact st_call (Eight_nil _ w2) fun _ w3 h => by rw [h]; exact hU
  · exact st_call (Text_nil _ w2) fun _ w3 h => by rw [h]; exact hU

theorem refNum_spec (w : World) (n k : Nat) (hk : k ≤ 8) (hn : n < 18446744073709551616) : CallsR Try.prog 37 #[.int .u64 (n : Nat), .int .i64 (k : Nat)] w fun r w' => r = .string ⟨(leB n k).toArray⟩ ∧ Upd w w' [] := by
  apply flotillaref01_Num_sound
  unfold flotillaref01_Num_x
  refine st_loop (fun vs w' => ∃ i : Nat, i ≤ k ∧ vs.getD 0 undef = .string ⟨(leB n i).toArray⟩ ∧ vs.getD 1 undef = .int .u64 (n / 256 ^ i : Nat) ∧ vs.getD 2 undef = .int .i64 i ∧ Upd w w' []) (fun vs _ => k - (intOf (vs.getD 2 undef)).toNat) ⟨0, by omega, rfl, by simp, rfl, Upd.refl w []⟩ ?_
  rintro dv vs w1 - ⟨i, hi, e0, e1, e2, hU1⟩
  simp (disch := omega) only [e0, e1, e2, PX, BX]
  refine ⟨fun hlt => ?_, fun hge => ?_⟩
  · rw [show Int.tmod ((n / 256 ^ i : Nat) : Int) 256 = ((n / 256 ^ i % 256 : Nat) : Int) from tmod_nat _ 256, wrapU8, show n / 256 ^ i % 256 % 256 = (UInt8.ofNat (n / 256 ^ i)).toNat by simp]
    refine st_newRow (one_byte _) hU1 (Owns.nil w1) ?_
    intro g w2 hU2 hO2 hg
    rw [step_run (run_str (l := [UInt8.ofNat (n / 256 ^ i)]) u22 u5 u9 (rd_row (n := 1) (c := 1) (hO2.at_ 0 rfl) rfl (by omega) rfl))]
    have hlen : (⟨(leB n i).toArray⟩ : ByteArray).size + (⟨[UInt8.ofNat (n / 256 ^ i)].toArray⟩ : ByteArray).size ≤ 9223372036854775807 := by rw [size_mk, size_mk, leB_len]; simp; omega
    rw [px_sadd hlen, mk_append, ← leB_succ]
    rw [show Int.tdiv ((n / 256 ^ i : Nat) : Int) 256 = ((n / 256 ^ i / 256 : Nat) : Int) from tdiv_nat _ 256, wrapU64, Nat.div_div_eq_div_mul, ← Nat.pow_succ, Nat.mod_eq_of_lt (Nat.lt_of_le_of_lt (Nat.div_le_self _ _) hn), w64 (by omega) (by omega)]
    refine ⟨⟨i + 1, by omega, rfl, rfl, rfl, hU2⟩, ?_⟩
    simp only [List.getD_cons_succ, List.getD_cons_zero, intOf]; omega
  · obtain rfl : i = k := by omega
    unfold flotillaref01_Num_k1
    exact ⟨rfl, hU1⟩
theorem refText_spec (w : World) (s : List UInt8) : CallsR Try.prog 36 #[.string ⟨s.toArray⟩] w fun r w' => r = .string ⟨(textB s).toArray⟩ ∧ Upd w w' [] := by
  apply flotillaref01_Text_sound
  unfold flotillaref01_Text_x
  have rest : ∀ t : List UInt8, t.length ≤ 65535 → flotillaref01_Text_k1 (std Try.prog) (.string ⟨t.toArray⟩) w fun r w' => r = .string ⟨(leB t.length 2 ++ t).toArray⟩ ∧ Upd w w' [] := by
    intro t ht
    unfold flotillaref01_Text_k1
    simp only [PX, size_mk, wrapU64, Nat.mod_eq_of_lt (show t.length < 18446744073709551616 by omega)]
    refine st_call (refNum_spec w t.length 2 (by omega) (by omega)) ?_
    rintro _ w1 ⟨rfl, hU1⟩
    have hlen : (⟨(leB t.length 2).toArray⟩ : ByteArray).size + (⟨t.toArray⟩ : ByteArray).size ≤ 9223372036854775807 := by rw [size_mk, size_mk, leB_len]; omega
    rw [px_sadd hlen, mk_append]
    exact ⟨rfl, hU1⟩
  simp only [BX, PX, size_mk]
  refine ⟨fun hbig => ?_, fun hsm => ?_⟩
  · rw [step_run (run_strTo (i := 65535) u9 (by omega) (by omega))]
    have := rest (s.take 65535) (by simp; omega)
    unfold textB
    rw [Nat.min_eq_right (by omega)]
    rw [List.length_take, Nat.min_eq_left (by omega)] at this
    exact this
  · have := rest s (by omega)
    unfold textB
    rw [Nat.min_eq_left (by omega), List.take_of_length_le (by omega)]
    exact this

theorem four_row (w : World) : (sBuildSlice 79 4 [(0, .int .i64 1), (1, .int .i64 2), (2, .int .i64 4), (3, .int .i64 8)]).run Try.prog w = .ok (.value (.slice (some ⟨w.heap.size, 0, none⟩) 4 4)) (w.alloc (.cells #[.int .i64 1, .int .i64 2, .int .i64 4, .int .i64 8] 3)) := by kernel_rfl
theorem laid_spec (w : World) (t : Th) (hn : t.n < 18446744073709551616) : CallsR Try.prog 15 #[.agg (thV t).toArray] w fun r w' => r = .string ⟨(thB t).toArray⟩ ∧ Upd w w' [] := by
  apply flotillalaw01_laid_sound
  unfold flotillalaw01_laid_x
  refine st_box (Upd.refl w []) (Owns.nil w) ?_
  intro g3 w1 hU1 hO1 hg3
  rw [ld36 (hO1.at_ 0 rfl)]
  refine st_call (kind_spec w1 t) ?_
  rintro _ w2 ⟨rfl, hU2⟩
  have hO2 := hO1.ext hU2
  have hU2 := hU1.trans hU2
  have c2 : w2.cell? ⟨g3, 2, none⟩ = some (.string ⟨t.s.toArray⟩) := cell_at (hO2.at_ 0 rfl)
  have hk := kN_lt t.kind
  simp (disch := first | assumption | omega) only [PX, BX, LX, add_mk, Nat.zero_add]
  refine ⟨fun h4 => ?_, fun h4 => ?_⟩
  · refine st_call (refText_spec w2 t.s) ?_
    rintro _ w3 ⟨rfl, hU3⟩
    have : thB t = textB t.s := by unfold thB; simp only [show kN t.kind = 4 by omega]
    rw [this]
    exact ⟨rfl, hU2.trans hU3⟩
  let H := [(g3, Obj.cells (thV t).toArray 36 (0, 0))]
  have hS : SU w H w2.drew := SU.drew hU2 hO2
  have hne : ∃ w', SU w H w' := ⟨_, hS⟩
  have c1 : ∀ w', SU w H w' → w'.cell? ⟨g3, 1, none⟩ = some (.int .u64 (t.n : Nat)) := fun w' h => cell_at (h.2.at_ 0 rfl)
  have l36 : ∀ w', SU w H w' → (sLoad 36 (.pointer (some ⟨g3, 0, none⟩))).run Try.prog w' = .ok (.value (.agg (thV t).toArray)) w' := fun w' h => run_sLoad (run_loadVarN (cs := thV t) ag36 (by rw [sz36]; rfl) (cells_read (h.2.at_ 0 rfl)))
  refine st_draw (SU w H) hS ?_
  simp (disch := first | assumption | omega) only [SX, SLX, add_mk, Nat.zero_add]
  simp only [stepS_run hne l36]
  -- the end, in whichever order
  have many : ∃ (k : Nat), [(1 : Nat), 2, 4, 8][kN t.kind]? = some k ∧ k ≤ 8 ∧ leB t.n k = thB t := by
    rcases (by omega : kN t.kind = 0 ∨ kN t.kind = 1 ∨ kN t.kind = 2 ∨ kN t.kind = 3) with h | h | h | h
    · exact ⟨1, by rw [h]; rfl, by omega, by unfold thB; simp only [h]⟩
    · exact ⟨2, by rw [h]; rfl, by omega, by unfold thB; simp only [h]⟩
    · exact ⟨4, by rw [h]; rfl, by omega, by unfold thB; simp only [h]⟩
    · exact ⟨8, by rw [h]; rfl, by omega, by unfold thB; simp only [h]⟩
  obtain ⟨k, hk1, hk2, hk3⟩ := many
  have hcell : ∀ {gx : Nat} {w' : World}, w'.heap[gx]? = some (.cells #[.int .i64 1, .int .i64 2, .int .i64 4, .int .i64 8] 3 (0, 0)) → w'.cell? ⟨gx, kN t.kind, none⟩ = some (.int .i64 (k : Nat)) := by
    intro gx w' h
    rw [cell_at h]
    rcases (by omega : kN t.kind = 0 ∨ kN t.kind = 1 ∨ kN t.kind = 2 ∨ kN t.kind = 3) with h | h | h | h <;> rw [h] at hk1 ⊢ <;> simp at hk1 <;> subst hk1 <;> rfl
  have fin : ∀ (w' : World), Upd w w' [] → (std Try.prog).calls 37 #[.int .u64 (t.n : Nat), .int .i64 (k : Nat)] w' fun v16 u => (std Try.prog).keepT u fun S => flotillalaw01_laid_k1 (std Try.prog) v16 u fun r w' => r = .string ⟨(thB t).toArray⟩ ∧ Upd w w' [] := by
    intro w' hU'
    refine st_call (refNum_spec w' t.n k hk2 hn) ?_
    rintro _ w3 ⟨rfl, hU3⟩
    refine st_keepT (fun _ => True) trivial ?_
    unfold flotillalaw01_laid_k1
    rw [hk3]
    exact ⟨rfl, hU'.trans hU3⟩
  constructor
  · refine st_newRow four_row hS.1 hS.2 ?_
    intro gx w4 hU4 hO4 hgx
    refine st_keepS (SU w ((gx, .cells #[.int .i64 1, .int .i64 2, .int .i64 4, .int .i64 8] 3 (0, 0)) :: H)) (fun w' h => ⟨h.1, h.2.sub (.cons _ (List.Sublist.refl _))⟩) ⟨hU4, hO4⟩ ?_
    refine st_call (kind_spec w4 t) ?_
    rintro _ w5 ⟨rfl, hU5⟩
    have hS5 : SU w ((gx, .cells #[.int .i64 1, .int .i64 2, .int .i64 4, .int .i64 8] 3 (0, 0)) :: H) w5 := ⟨hU4.trans hU5, hO4.ext hU5⟩
    refine st_same hS5 ?_
    have hne5 : ∃ w', SU w ((gx, .cells #[.int .i64 1, .int .i64 2, .int .i64 4, .int .i64 8] 3 (0, 0)) :: H) w' := ⟨_, hS5⟩
    have d0 : ∀ w', SU w ((gx, .cells #[.int .i64 1, .int .i64 2, .int .i64 4, .int .i64 8] 3 (0, 0)) :: H) w' → w'.cell? ⟨gx, kN t.kind, none⟩ = some (.int .i64 (k : Nat)) := fun w' h => hcell (h.2.at_ 0 rfl)
    simp (disch := first | assumption | omega) only [SX, SLX, add_mk, Nat.zero_add]
    exact fin w5 hS5.1
  · refine st_call (kind_spec w2.drew t) ?_
    rintro _ w4 ⟨rfl, hU4⟩
    have hS4 : SU w H w4 := ⟨hS.1.trans hU4, hS.2.ext hU4⟩
    refine st_same hS4 ?_
    refine st_newRow four_row hS4.1 hS4.2 ?_
    intro gx w5 hU5 hO5 hgx
    have hS5 : SU w ((gx, .cells #[.int .i64 1, .int .i64 2, .int .i64 4, .int .i64 8] 3 (0, 0)) :: H) w5 := ⟨hU5, hO5⟩
    refine st_keepS (SU w ((gx, .cells #[.int .i64 1, .int .i64 2, .int .i64 4, .int .i64 8] 3 (0, 0)) :: H)) (fun w' h => ⟨h.1, h.2.sub (.cons _ (List.Sublist.refl _))⟩) hS5 ?_
    have hne5 : ∃ w', SU w ((gx, .cells #[.int .i64 1, .int .i64 2, .int .i64 4, .int .i64 8] 3 (0, 0)) :: H) w' := ⟨_, hS5⟩
    have d0 : ∀ w', SU w ((gx, .cells #[.int .i64 1, .int .i64 2, .int .i64 4, .int .i64 8] 3 (0, 0)) :: H) w' → w'.cell? ⟨gx, kN t.kind, none⟩ = some (.int .i64 (k : Nat)) := fun w' h => hcell (h.2.at_ 0 rfl)
    simp (disch := first | assumption | omega) only [SX, SLX, add_mk, Nat.zero_add]
    exact fin w5 hS5.1

/-- things laid one behind the other -/
def allB (l : List Th) : List UInt8 := l.flatMap thB
theorem allB_len (l : List Th) : (allB l).length ≤ 65537 * l.length := by
  induction l with
  | nil => simp [allB]
  | cons t l ih =>
    have := thB_len t
    simp only [allB, List.flatMap_cons, List.length_append, List.length_cons] at ih ⊢
    omega
theorem allB_succ {l : List Th} {i : Nat} (hi : i < l.length) : allB (l.take (i + 1)) = allB (l.take i) ++ thB l[i] := by
  unfold allB; rw [List.take_succ_eq_append_getElem hi, List.flatMap_append]; simp

theorem EncLays_spec (W : World) (v : Value) (l : List Th) (hr : RdS W thV 3 v l) (hl : ∀ o ∈ l, o.n < 18446744073709551616) :
    CallsR Try.prog 4 #[v] W fun r w' => r = .bool true ∧ Upd W w' [] := by
  apply flotillalaw01_EncLays_sound
  unfold flotillalaw01_EncLays_x
  have fin : ∀ w', Upd W w' [] → (std Try.prog).calls 10 #[] w' fun r w_1 => r = .bool true ∧ Upd W w_1 [] := fun w' hU => st_call (lives_spec w') fun v w4 h => ⟨h.1, hU.trans h.2⟩
  obtain ⟨B, cb, rfl, hlm, hrd⟩ := hr
  refine st_call (New_spec W) ?_
  rintro _ w1 ⟨g, rfl, hW1⟩
  refine st_loop (fun vs w' => ∃ i : Nat, i ≤ l.length ∧ i ≤ 60 ∧ vs.getD 0 undef = .string ⟨(allB (l.take i)).toArray⟩ ∧ vs.getD 1 undef = .int .i64 i ∧ WI W [] g (allB (l.take i)) w') (fun vs _ => l.length - (intOf (vs.getD 1 undef)).toNat) ⟨0, by omega, by omega, rfl, rfl, hW1⟩ ?_
  rintro dv vs w2 - ⟨i, hi, hi6, e0, e1, hW2⟩
  have hlen := allB_len (l.take i)
  rw [List.length_take] at hlen
  have rest : flotillalaw01_EncLays_k1 (std Try.prog) (.pointer (some ⟨g, 0, none⟩)) (.string ⟨(allB (l.take i)).toArray⟩) w2 fun r w' => r = .bool true ∧ Upd W w' [] := by
    unfold flotillalaw01_EncLays_k1
    refine st_call (Done_spec (by omega) hW2) ?_
    intro r w3 hN
    rw [step_run (run_str u22 u5 u9 hN.rd)]
    simp (disch := omega) only [PX, BX]
    refine ⟨fun _ => ?_, fun h => absurd trivial h⟩
    refine st_call (Done_nil w3) ?_
    rintro _ w4 ⟨rfl, rfl⟩
    simp (disch := omega) only [PX, BX]
    exact ⟨fun _ => fin _ (hW2.mid.trans hN.upd), fun h => absurd rfl h⟩
  simp (disch := omega) only [e0, e1, PX, BX]
  refine ⟨fun hlt => ⟨fun h60 => ?_, fun _ => rest⟩, fun _ => rest⟩
  have hlt' : i < l.length := by omega
  obtain ⟨a, rfl, hc⟩ := hrd.row (f := thV) (k := 3) (fun _ => rfl) (by decide) hlt'
  rw [show ((i : Nat) : Int).toNat = i by omega] at hc
  have ld : ∀ (w' : World) (K : Value → World → Prop), Upd W w' [] → (std Try.prog).step (sLoad 36 (.pointer (some (a.add (i * 3))))) w' K = K (.agg (thV l[i]).toArray) w' := fun w' K hU => step_run (run_sLoad (run_loadVarN (cs := thV l[i]) ag36 (by rw [sz36]; rfl) fun j u hj => by rw [add_add']; exact hc w' hU j u hj))
  simp (disch := omega) only [PX]
  rw [ld w2 _ hW2.mid]
  refine st_call (lay_spec l[i] (by omega) hW2) ?_
  intro _ w3 hW3
  rw [ld w3 _ hW3.mid]
  refine st_call (lay_nil w3 l[i]) ?_
  intro _ w4 hU4
  have hW4 := hW3.ext hU4
  rw [ld w4 _ hW4.mid]
  refine st_call (laid_spec w4 l[i] (hl _ (List.getElem_mem hlt'))) ?_
  rintro _ w5 ⟨rfl, hU5⟩
  have hW5 := hW4.ext hU5
  have htl := thB_len l[i]
  have hsz : (⟨(allB (l.take i)).toArray⟩ : ByteArray).size + (⟨(thB l[i]).toArray⟩ : ByteArray).size ≤ 9223372036854775807 := by rw [size_mk, size_mk]; omega
  rw [px_sadd hsz, mk_append, ← allB_succ hlt']
  rw [← allB_succ hlt'] at hW5
  simp (disch := omega) only [PX, w64]
  refine ⟨⟨i + 1, by omega, by omega, rfl, rfl, hW5⟩, ?_⟩
  simp only [List.getD_cons_succ, List.getD_cons_zero, intOf]; omega
end Go.Proofs.Ytibacmekhkaipaa
