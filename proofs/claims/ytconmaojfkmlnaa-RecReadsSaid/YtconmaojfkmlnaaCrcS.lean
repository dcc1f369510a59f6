/- Ported from another seat (crc/S.lean). -/
import Derived.Test.YtconmaojfkmlnaaD
import Derived.Test.YtconmaojfkmlnaaF
import Derived.Test.YtconmaojfkmlnaaCrcM
namespace Go.Proofs.Ytconmaojfkmlnaa.Crc
open Go Go.Proofs.Ytconmaojfkmlnaa Xf Go.RowKit
set_option linter.unusedVariables false
set_option linter.unusedSimpArgs false
set_option maxRecDepth 100000
/-! the machine's bits -/
theorem wrap_u32 {a : Int} (h0 : 0 ≤ a) (h1 : a < 4294967296) : IntKind.wrap .u32 a = a := by
  rw [IntKind.wrap_u32]; omega
theorem bit_xor {a b : Nat} (ha : a < 4294967296) (hb : b < 4294967296) : bitOp .xor .u32 (a : Int) (b : Int) = ((a ^^^ b : Nat) : Int) := by
  have hx := xor_lt32 ha hb
  show IntKind.wrap .u32 ((BitVec.ofInt 32 (a : Int) ^^^ BitVec.ofInt 32 (b : Int) : BitVec 32).toNat : Int) = _
  rw [BitVec.toNat_xor, u32_ofInt a ha, u32_ofInt b hb, wrap_u32 (by omega) (by omega)]
theorem bit_and {a b : Nat} (ha : a < 4294967296) (hb : b < 4294967296) : bitOp .and .u32 (a : Int) (b : Int) = ((a &&& b : Nat) : Int) := by
  have hx : a &&& b < 4294967296 := Nat.lt_of_le_of_lt Nat.and_le_left ha
  show IntKind.wrap .u32 ((BitVec.ofInt 32 (a : Int) &&& BitVec.ofInt 32 (b : Int) : BitVec 32).toNat : Int) = _
  rw [BitVec.toNat_and, u32_ofInt a ha, u32_ofInt b hb, wrap_u32 (by omega) (by omega)]

theorem w64 {a : Int} (h0 : -9223372036854775808 ≤ a) (h1 : a < 9223372036854775808) : IntKind.wrap .i64 a = a := by
  rw [IntKind.wrap_i64]; omega
theorem bit_and1 {n : Nat} (h : n < 4294967296) : bitOp .and .u32 (n : Int) 1 = ((n % 2 : Nat) : Int) := by
  have := bit_and h (b := 1) (by omega)
  rwa [Nat.and_one_is_mod] at this
theorem bit_and15 {n : Nat} (h : n < 4294967296) : bitOp .and .u32 (n : Int) 15 = ((n % 16 : Nat) : Int) := by
  have := bit_and h (b := 15) (by omega)
  rwa [show n &&& 15 = n % 16 from Nat.and_two_pow_sub_one_eq_mod n 4] at this
theorem bit_xorp {n : Nat} (h : n < 4294967296) : bitOp .xor .u32 (n : Int) 2197175160 = ((n ^^^ poly : Nat) : Int) := bit_xor h (b := poly) (by decide)
theorem shr_u32 (n k : Nat) (hk : k ≤ 32) : Int.fdiv (n : Int) (2 ^ (min (Int.toNat (k : Int)) (IntKind.bits .u32))) = ((n / 2 ^ k : Nat) : Int) := by
  rw [show min (Int.toNat (k : Int)) (IntKind.bits .u32) = k by simp [IntKind.bits]; omega]
  rw [Int.fdiv_eq_ediv_of_nonneg _ (by exact Int.le_of_lt (Int.pow_pos (by decide)))]
  norm_cast
theorem shr1 (n : Nat) : Int.fdiv (n : Int) (2 ^ (min (Int.toNat 1) (IntKind.bits .u32))) = ((n / 2 : Nat) : Int) := shr_u32 n 1 (by omega)
theorem shr4 (n : Nat) : Int.fdiv (n : Int) (2 ^ (min (Int.toNat 4) (IntKind.bits .u32))) = ((n / 16 : Nat) : Int) := shr_u32 n 4 (by omega)

def tabV : List Value := (List.range 16).map fun i => .int .u32 (sts 4 i : Nat)
/-- the table, its first k places filled -/
def tabK (k : Nat) : List Value := (List.range 16).map fun i => .int .u32 (if i < k then (sts 4 i : Nat) else 0 : Nat)
theorem tabK_len (k : Nat) : (tabK k).length = 16 := by simp [tabK]
theorem tabK_set (k : Nat) (hk : k < 16) : (tabK k).set k (.int .u32 (sts 4 k : Nat)) = tabK (k + 1) := by
  apply List.ext_getElem?
  intro j
  by_cases hj : k = j
  · subst hj
    rw [List.getElem?_set_self (by rw [tabK_len]; exact hk)]
    simp [tabK, hk]
  · rw [List.getElem?_set_ne hj]
    by_cases hj16 : j < 16
    · simp only [tabK, List.getElem?_map, List.getElem?_range hj16, Option.map_some]
      by_cases h : j < k
      · rw [if_pos h, if_pos (by omega)]
      · rw [if_neg h, if_neg (by omega)]
    · rw [List.getElem?_eq_none (by rw [tabK_len]; omega), List.getElem?_eq_none (by rw [tabK_len]; omega)]
theorem tabK_16 : tabK 16 = tabV := by
  unfold tabK tabV
  apply List.map_congr_left
  intro i hi
  rw [if_pos (List.mem_range.1 hi)]
theorem tabK_one (k : Nat) : ∀ u ∈ tabK k, u.oneCell' = true := by
  intro u hu
  obtain ⟨i, _, rfl⟩ := List.mem_map.1 hu
  rfl

theorem sts_succ (j n : Nat) : sts (j + 1) n = st (sts j n) := by rw [sts_add]; rfl

theorem steps_spec (w : World) : CallsR Try.prog 73 #[] w fun v w' => v = .agg tabV.toArray ∧ Upd w w' [] := by
  apply crc_steps_sound
  unfold crc_steps_x
  refine st_alloc ze114 (Upd.refl w []) (Owns.nil w) ?_
  intro g0 w0 hU0 hO0 hg0
  refine st_alloc ze114 hU0 hO0 ?_
  intro g1 w1 hU1 hO1 hg1
  refine st_loop (fun vs w' => ∃ (i : Nat) (u0 u1 : Value), i ≤ 16 ∧ vs = [u0, u1, .int .i64 i] ∧ Upd w w' [] ∧ Owns w' [(g1, .cells (tabK i).toArray 114 (0, 0)), (g0, .cells (tabK 0).toArray 114 (0, 0))])
    (fun vs _ => match vs with | [_, _, .int _ i] => 16 - i.toNat | _ => 0) ⟨0, undef, undef, by omega, rfl, hU1, hO1⟩ ?_
  clear hU0 hO0 hU1 hO1
  rintro dv vs w2 - ⟨i, u0, u1, hi, rfl, hU2, hO2⟩
  simp (disch := omega) only [List.getD_cons_succ, List.getD_cons_zero, PX, BX, w64]
  refine ⟨fun hlt => ?_, fun hge => ?_⟩
  · have hlt' : i < 16 := by omega
    rw [wrap_u32 (by omega) (by omega)]
    refine st_loop (fun vs w' => ∃ j : Nat, j ≤ 4 ∧ vs = [.int .u32 (sts j i : Nat), .int .i64 j] ∧ w' = w2) (fun vs _ => match vs with | [_, .int _ j] => 4 - j.toNat | _ => 0) ⟨0, by omega, rfl, rfl⟩ ?_
    rintro dv vs w3 - ⟨j, hj, rfl, rfl⟩
    have hb : sts j i < 4294967296 := sts_lt j (by omega)
    simp (disch := omega) only [List.getD_cons_succ, List.getD_cons_zero, PX, BX, w64, bit_and1, crc_steps_k3, crc_steps_k2]
    refine ⟨fun hjl => ?_, fun hjg => ?_⟩
    · simp only [shr1]
      refine ⟨fun h => ⟨⟨j + 1, by omega, ?_, trivial⟩, by omega⟩, fun h => ⟨⟨j + 1, by omega, ?_, trivial⟩, by omega⟩⟩
      · rw [bit_xorp (by omega), sts_succ]
        unfold st
        rw [if_pos (by omega)]
        rfl
      · rw [sts_succ]
        unfold st
        rw [if_neg (by omega), Nat.xor_zero]
        rfl
    · obtain rfl : j = 4 := by omega
      rw [add_mk]
      refine st_storeB sz89 rfl hU2 hO2 0 rfl (by simp [tabK_len]; omega) (.inr (Nat.zero_le _)) (.inr hg1) ?_
      intro w4 hU4 hO4
      refine ⟨⟨i + 1, _, _, by omega, rfl, hU4, ?_⟩, by omega⟩
      have he : 0 + i = i := by omega
      rw [he] at hO4
      simpa [tabK_set i hlt'] using hO4
  · obtain rfl : i = 16 := by omega
    unfold crc_steps_k1
    refine st_loadN (cs := tabV) ag114 (by rw [sz114]; rfl) ?_ ?_
    · rw [← tabK_16]; exact cells_read (hO2.at_ 0 rfl)
    refine st_storeN (by rw [sz114]; rfl) hU2 hO2 1 rfl (by simp [tabK_len, tabV]) (by rw [← tabK_16]; exact tabK_one 16) (.inr hg0) ?_
    intro w3 hU3 hO3
    refine st_loadR (u := .agg tabV.toArray) ?_ ⟨rfl, hU3⟩
    refine run_loadVarN ag114 (by rw [sz114]; rfl) ?_
    have := hO3.at_ 1 rfl
    have he : (List.take 0 (tabK 0).toArray.toList ++ tabV ++ List.drop (0 + tabV.length) (tabK 0).toArray.toList) = tabV := by
      rw [List.drop_of_length_le (by simp [tabK_len, tabV])]; simp
    rw [he] at this
    exact cells_read this

theorem stepTab {w : World} {g : Nat} {h : List (Nat × Obj)} (hO : Owns w ((g, .cells tabV.toArray 114 (0, 0)) :: h)) {m : Nat} (hm : m < 16) {K : Value → World → Prop} (hk : K (.int .u32 (sts 4 m : Nat)) w) :
    (std Try.prog).step (sIndexAddr 114 (.pointer (some ⟨g, 0, none⟩)) (.int .u32 (m : Nat))) w fun v w => (std Try.prog).step (sLoad 89 v) w K := by
  rw [step_run (run_idxA u114 sz89 (by omega) (by omega)), add_mk]
  refine st_load ag89 ?_ hk
  rw [cell_at (hO.at_ 0 rfl), show 0 + (m : Int).toNat * 1 = m by omega]
  simp [tabV, hm]

theorem More_spec (w : World) (s : Nat) (hs : s < 4294967296) (v : Value) (l : List UInt8) (hl : l.length < 9223372036854775807) (hr : Rd w 1 v l.length (bytesV l)) :
    CallsR Try.prog 71 #[.int .u32 s, v] w fun r w' => r = .int .u32 (more s l : Nat) ∧ Upd w w' [] := by
  apply crc_More_sound
  unfold crc_More_x
  refine st_call (steps_spec w) ?_
  rintro _ w0 ⟨rfl, hU0⟩
  refine st_alloc ze114 hU0 (Owns.nil w0) ?_
  intro g w1 hU1 hO1 hg
  refine st_storeN (vs := tabV) (by rw [sz114]; rfl) hU1 hO1 0 rfl (by simp [tabV, Value.cells]) (by rw [← tabK_16]; exact tabK_one 16) (.inr hg) ?_
  intro w2 hU2 hO2
  have hO2 : Owns w2 [(g, .cells tabV.toArray 114 (0, 0))] := by simpa [tabV, Value.cells] using hO2
  clear hO1 hU1 hU0
  obtain ⟨A, c, rfl, hc, hlen, hcell⟩ := hr
  simp (disch := omega) only [PX]
  rw [show bitOp BinOp.xor IntKind.u32 (if IntKind.u32.signed = true then -1 else IntKind.u32.max) (s : Int) = ((4294967295 - s : Nat) : Int) from by
    rw [← inv_xor hs]; exact bit_xor (a := 4294967295) (by omega) hs]
  refine st_loop (fun vs w' => ∃ (k : Nat) (u : Value), k ≤ l.length ∧ vs = [u, .int .u32 (reg (4294967295 - s) (l.take k) : Nat), .int .i64 k] ∧ Upd w w' [] ∧ Owns w' [(g, .cells tabV.toArray 114 (0, 0))])
    (fun vs _ => match vs with | [_, _, .int _ i] => l.length - i.toNat | _ => 0) ⟨0, _, by omega, rfl, hU2, hO2⟩ ?_
  clear hU2 hO2
  rintro dv vs w3 - ⟨k, u, hk, rfl, hU3, hO3⟩
  have hreg : reg (4294967295 - s) (l.take k) < 4294967296 := reg_lt _ (by omega)
  simp (disch := omega) only [List.getD_cons_succ, List.getD_cons_zero, PX, BX]
  refine ⟨fun hlt => ?_, fun hge => ?_⟩
  · have hlt' : k < l.length := by omega
    obtain ⟨a, rfl, hca⟩ := hcell k (.int .u8 l[k].toNat) (by simp [bytesV, hlt'])
    have hca : w3.cell? (a.add ((k : Int).toNat * 1)) = some (.int .u8 l[k].toNat) := by
      rw [show (k : Int).toNat * 1 = k by omega, hU3.cell (World.block_lt_of_cell? w _ hca) (by simp)]; exact hca
    have hx := byte_lt l[k]
    rw [step_run (run_idxS u22 sz5 (by omega) hlt)]
    refine st_load ag5 hca ?_
    simp (disch := omega) only [PX, wrap_u32]
    have h1 : reg (4294967295 - s) (l.take k) ^^^ l[k].toNat < 4294967296 := xor_lt32 hreg (by omega)
    have h16 := h1
    generalize hn : reg (4294967295 - s) (l.take k) ^^^ l[k].toNat = n at h1
    simp (disch := omega) only [bit_xor, hn, PX, bit_and15, shr4]
    refine stepTab hO3 (by omega) ?_
    have h2 : n / 16 ^^^ sts 4 (n % 16) < 4294967296 := xor_lt32 (by omega) (sts_lt 4 (by omega))
    have h4 : sts 4 (n % 16) < 4294967296 := sts_lt 4 (by omega)
    generalize hm : n / 16 ^^^ sts 4 (n % 16) = m at h2
    simp (disch := omega) only [bit_xor, hm, PX, bit_and15, shr4]
    refine stepTab hO3 (by omega) ?_
    have h5 : sts 4 (m % 16) < 4294967296 := sts_lt 4 (by omega)
    simp (disch := omega) only [bit_xor, PX, w64]
    refine ⟨⟨k + 1, .int .u8 l[k].toNat, by omega, ?_, hU3, hO3⟩, by omega⟩
    rw [List.take_succ_eq_append_getElem hlt', reg_snoc, hn, ← hn, byte_step, hn, hm]
    rfl
  · obtain rfl : k = l.length := by omega
    unfold crc_More_k1
    simp (disch := omega) only [PX]
    refine ⟨?_, hU3⟩
    rw [List.take_length] at hreg ⊢
    unfold more
    rw [← inv_xor hreg]
    congr 1
    exact bit_xor (a := 4294967295) (by omega) hreg


theorem Sum_spec (w : World) (v : Value) (l : List UInt8) (hl : l.length < 9223372036854775807) (hr : Rd w 1 v l.length (bytesV l)) :
    CallsR Try.prog 66 #[v] w fun r w' => r = .int .u32 (more 0 l : Nat) ∧ Upd w w' [] := by
  apply crc_Sum_sound
  unfold crc_Sum_x
  refine st_call (More_spec w 0 (by omega) v l hl hr) ?_
  rintro _ w1 ⟨rfl, hU⟩
  exact ⟨rfl, hU⟩

/-- k bits of one byte -/
def refSt : Nat → Nat → Nat → Nat × Nat
  | 0, n, x => (n, x)
  | k + 1, n, x => refSt k ((n / 2) ^^^ (if n % 2 = x % 2 then 0 else poly)) (x / 2)
theorem refSt_xor (k : Nat) : ∀ n x, (refSt k n x).1 ^^^ (refSt k n x).2 = sts k (n ^^^ x) := by
  induction k with
  | zero => intro n x; rfl
  | succ k ih => intro n x; simp only [refSt, ih, sts, st_pair]
theorem refSt_snd (k : Nat) : ∀ n x, (refSt k n x).2 = x / 2 ^ k := by
  induction k with
  | zero => intro n x; simp [refSt]
  | succ k ih => intro n x; simp only [refSt, ih]; rw [Nat.div_div_eq_div_mul, Nat.pow_succ']
theorem refSt_succ (k : Nat) : ∀ n x, refSt (k + 1) n x = (((refSt k n x).1 / 2) ^^^ (if (refSt k n x).1 % 2 = (refSt k n x).2 % 2 then 0 else poly), (refSt k n x).2 / 2) := by
  induction k with
  | zero => intro n x; rfl
  | succ k ih => intro n x; rw [refSt, ih]; rfl
theorem refSt_8 (n : Nat) (x : UInt8) : (refSt 8 n x.toNat).1 = sts 8 (n ^^^ x.toNat) := by
  have h1 := refSt_xor 8 n x.toNat
  have h2 := refSt_snd 8 n x.toNat
  have h3 := byte_lt x
  rw [show x.toNat / 2 ^ 8 = 0 by omega] at h2
  rw [h2, Nat.xor_zero] at h1
  exact h1
theorem refSt_lt (k : Nat) : ∀ n x, n < 4294967296 → x < 4294967296 → (refSt k n x).1 < 4294967296 ∧ (refSt k n x).2 < 4294967296 := by
  induction k with
  | zero => intro n x hn hx; exact ⟨hn, hx⟩
  | succ k ih =>
    intro n x hn hx
    refine ih _ _ (xor_lt32 (by omega) ?_) (by omega)
    split
    · omega
    · decide

theorem rMore_spec (w : World) (s : Nat) (hs : s < 4294967296) (l : List UInt8) (hl : l.length < 9223372036854775807) :
    CallsR Try.prog 72 #[.int .u32 s, .string ⟨l.toArray⟩] w fun r w' => r = .int .u32 (more s l : Nat) ∧ w' = w := by
  apply flotillaref02_More_sound
  unfold flotillaref02_More_x
  simp (disch := omega) only [PX]
  rw [show IntKind.wrap IntKind.u32 (4294967295 - (s : Int)) = ((4294967295 - s : Nat) : Int) from by rw [wrap_u32 (by omega) (by omega)]; omega]
  refine st_loop (fun vs w' => ∃ k : Nat, k ≤ l.length ∧ vs.getD 2 undef = .int .u32 (reg (4294967295 - s) (l.take k) : Nat) ∧ vs.getD 4 undef = .int .i64 k ∧ w' = w)
    (fun vs _ => l.length - (intOf (vs.getD 4 undef)).toNat) ⟨0, by omega, rfl, rfl, rfl⟩ ?_
  rintro dv vs w3 - ⟨k, hk, e2, e4, rfl⟩
  have hreg : reg (4294967295 - s) (l.take k) < 4294967296 := reg_lt _ (by omega)
  simp (disch := omega) only [e2, e4, PX, BX, size_mk]
  refine ⟨fun hlt => ?_, fun hge => ?_⟩
  · have hlt' : k < l.length := by omega
    have hx := byte_lt l[k]
    rw [step_run (run_idxStr u9 (by omega) (b := l[k]) (by simp [hlt']))]
    simp (disch := omega) only [PX, wrap_u32]
    refine st_loop (fun vs w' => ∃ j : Nat, j ≤ 8 ∧ vs.getD 1 undef = .int .u32 ((refSt j (reg (4294967295 - s) (l.take k)) l[k].toNat).2 : Nat) ∧ vs.getD 2 undef = .int .u32 ((refSt j (reg (4294967295 - s) (l.take k)) l[k].toNat).1 : Nat) ∧ vs.getD 3 undef = .int .i64 j ∧ w' = w3)
      (fun vs _ => 8 - (intOf (vs.getD 3 undef)).toNat) ⟨0, by omega, rfl, rfl, rfl, rfl⟩ ?_
    rintro dv vs w4 - ⟨j, hj, f1, f2, f3, rfl⟩
    obtain ⟨hb1, hb2⟩ := refSt_lt j _ l[k].toNat hreg (by omega)
    have hsucc := refSt_succ j (reg (4294967295 - s) (l.take k)) l[k].toNat
    simp (disch := omega) only [f1, f2, f3, PX, BX, e4, flotillaref02_More_k3, flotillaref02_More_k2]
    refine ⟨fun hjl => ?_, fun hjg => ?_⟩
    · generalize (refSt j (reg (4294967295 - s) (l.take k)) l[k].toNat).1 = n at *
      generalize (refSt j (reg (4294967295 - s) (l.take k)) l[k].toNat).2 = x at *
      have hn2 : Int.tdiv (n : Int) 2 = ((n / 2 : Nat) : Int) := tdiv_nat n 2
      have hx2 : Int.tdiv (x : Int) 2 = ((x / 2 : Nat) : Int) := tdiv_nat x 2
      have hnm : Int.tmod (n : Int) 2 = ((n % 2 : Nat) : Int) := tmod_nat n 2
      have hxm : Int.tmod (x : Int) 2 = ((x % 2 : Nat) : Int) := tmod_nat x 2
      simp (disch := omega) only [hn2, hx2, hnm, hxm, wrap_u32, w64, bit_xorp]
      refine ⟨fun h => ⟨⟨j + 1, by omega, ?_, ?_, rfl, trivial⟩, ?_⟩, fun h => ⟨⟨j + 1, by omega, ?_, ?_, rfl, trivial⟩, ?_⟩⟩
      · rw [hsucc]; rfl
      · rw [hsucc, if_neg (by omega)]; rfl
      · simp only [List.getD_cons_succ, List.getD_cons_zero, intOf]; omega
      · rw [hsucc]; rfl
      · rw [hsucc, if_pos (by omega), Nat.xor_zero]; rfl
      · simp only [List.getD_cons_succ, List.getD_cons_zero, intOf]; omega
    · obtain rfl : j = 8 := by omega
      simp (disch := omega) only [w64]
      refine ⟨⟨k + 1, by omega, ?_, rfl, trivial⟩, ?_⟩
      · rw [List.take_succ_eq_append_getElem hlt', reg_snoc, ← refSt_8]
        rfl
      · simp only [List.getD_cons_succ, List.getD_cons_zero, intOf]; omega
  · obtain rfl : k = l.length := by omega
    unfold flotillaref02_More_k1
    simp (disch := omega) only [PX, wrap_u32]
    refine ⟨?_, trivial⟩
    rw [List.take_length] at hreg ⊢
    unfold more
    congr 1
    omega

theorem rSum_spec (w : World) (l : List UInt8) (hl : l.length < 9223372036854775807) :
    CallsR Try.prog 68 #[.string ⟨l.toArray⟩] w fun r w' => r = .int .u32 (more 0 l : Nat) ∧ w' = w := by
  apply flotillaref02_Sum_sound
  unfold flotillaref02_Sum_x
  refine st_call (rMore_spec w 0 (by omega) l hl) ?_
  rintro _ w1 ⟨rfl, rfl⟩
  exact ⟨rfl, rfl⟩


theorem check_lives : more 0 [49, 50, 51, 52, 53, 54, 55, 56, 57] = 3808858755 := by decide
theorem rd_row {w : World} {g n c : Nat} {cs : Array Value} {e : TypeId} {fr : Nat × Nat} {xs : List Value} (h : w.heap[g]? = some (.cells cs e fr)) (hn : xs.length = n) (hc : n ≤ c) (hx : cs.toList.take n = xs) : Rd w 1 (.slice (some ⟨g, 0, none⟩) n c) n xs := by
  refine ⟨_, _, rfl, hc, by omega, fun j u hu => ⟨_, rfl, ?_⟩⟩
  rw [add_mk, Nat.zero_add, cell_at h]
  rw [← hx, List.getElem?_take] at hu
  split at hu
  · simpa using hu
  · cases hu

end Go.Proofs.Ytconmaojfkmlnaa.Crc
