/- Three rows of one length, together. -/
import Derived.Test.YtpbejopmgnglnaaS4
namespace Go.Proofs.Ytpbejopmgnglnaa
open Go Xf Go.RowKit
set_option linter.unusedVariables false
set_option linter.unusedSimpArgs false
set_option maxRecDepth 100000

def x3 (a b c : List UInt8) (i : Nat) : List UInt8 := (List.range i).map fun j => a.getD j 0 ^^^ b.getD j 0 ^^^ c.getD j 0
theorem x3_len (a b c : List UInt8) (i : Nat) : (x3 a b c i).length = i := by simp [x3]
theorem x3_succ (a b c : List UInt8) (i : Nat) : x3 a b c (i + 1) = x3 a b c i ++ [a.getD i 0 ^^^ b.getD i 0 ^^^ c.getD i 0] := by
  unfold x3; rw [List.range_succ, List.map_append]; rfl
theorem take_snoc (a : List UInt8) (i : Nat) (h : i < a.length) : a.take (i + 1) = a.take i ++ [a.getD i 0] := by
  rw [List.take_succ_eq_append_getElem h]; simp only [List.getD, List.getElem?_eq_getElem h, Option.getD_some]
theorem x3_reg (a b c : List UInt8) : ∀ i, i ≤ a.length → i ≤ b.length → i ≤ c.length →
    reg 4294967295 (x3 a b c i) = reg 4294967295 (a.take i) ^^^ reg 4294967295 (b.take i) ^^^ reg 4294967295 (c.take i)
  | 0, _, _, _ => by show 4294967295 = 4294967295 ^^^ 4294967295 ^^^ 4294967295; rw [Nat.xor_self, Nat.zero_xor]
  | i + 1, ha, hb, hc => by
    rw [x3_succ, take_snoc a i (by omega), take_snoc b i (by omega), take_snoc c i (by omega), reg_snoc, reg_snoc, reg_snoc, reg_snoc, x3_reg a b c i (by omega) (by omega) (by omega), ← sts_xor, ← sts_xor]
    congr 1
    simp only [UInt8.toNat_xor]
    ac_rfl
theorem x3_more (a b c : List UInt8) (i : Nat) (ha : i ≤ a.length) (hb : i ≤ b.length) (hc : i ≤ c.length) :
    more 0 (a.take i) ^^^ more 0 (b.take i) ^^^ more 0 (c.take i) = more 0 (x3 a b c i) := by
  unfold more
  rw [Nat.sub_zero, ← inv_xor (reg_lt _ (by omega)), ← inv_xor (reg_lt _ (by omega)), ← inv_xor (reg_lt _ (by omega)), ← inv_xor (reg_lt _ (by omega)), x3_reg a b c i ha hb hc]
  generalize reg 4294967295 (a.take i) = p
  generalize reg 4294967295 (b.take i) = q
  generalize reg 4294967295 (c.take i) = r
  have h : ∀ o : Nat, o ^^^ o ^^^ o = o := fun o => by rw [Nat.xor_self, Nat.zero_xor]
  have e : 4294967295 ^^^ p ^^^ (4294967295 ^^^ q) ^^^ (4294967295 ^^^ r) = (4294967295 ^^^ 4294967295 ^^^ 4294967295) ^^^ (p ^^^ q ^^^ r) := by ac_rfl
  rw [e, h]

theorem bit_xor8 {a b : Nat} (ha : a < 256) (hb : b < 256) : bitOp .xor .u8 (a : Int) (b : Int) = ((a ^^^ b : Nat) : Int) := by
  have hx : a ^^^ b < 256 := Nat.xor_lt_two_pow (n := 8) ha hb
  show IntKind.wrap .u8 ((BitVec.ofInt 8 (a : Int) ^^^ BitVec.ofInt 8 (b : Int) : BitVec 8).toNat : Int) = _
  rw [BitVec.toNat_xor]
  have h8 : ∀ n : Nat, n < 256 → (BitVec.ofInt 8 (n : Int)).toNat = n := fun n hn => by
    rw [BitVec.ofInt_natCast, BitVec.toNat_ofNat]; exact Nat.mod_eq_of_lt (by omega)
  rw [h8 a ha, h8 b hb, IntKind.wrap_u8]
  omega
theorem xor8 (x y : UInt8) : bitOp .xor .u8 (x.toNat : Int) (y.toNat : Int) = ((x ^^^ y).toNat : Int) := by
  rw [bit_xor8 (byte_lt x) (byte_lt y), UInt8.toNat_xor]

theorem min4 {P : Program} {w : World} {ats : Array TypeId} {ty : TypeId} {c : List Bool} {q : IntKind} (a b d e : Nat) :
    ∃ n : Nat, n ≤ a ∧ n ≤ b ∧ n ≤ d ∧ n ≤ e ∧ ∀ w, (sBuiltin .min ats ty c [.int q a, .int q b, .int q d, .int q e]).run P w = .ok (.value (.int q n)) w := by
  refine ⟨min (min (min a b) d) e, by omega, by omega, by omega, by omega, fun w => ?_⟩
  have h2 : ∀ a b : Nat, (if (b : Int) < a then (b : Int) else a) = (min a b : Nat) := fun a b => by split <;> omega
  simp only [sBuiltin, builtin, Builtin.min_, Builtin.min2, List.foldlM, run_sV, Sem.run_bind, Sem.run_pure, Result.andThen_ok, h2]

theorem one_row (b : Int) (w : World) : (sBuildSlice 22 1 [(0, .int .u8 b)]).run Try.prog w = .ok (.value (.slice (some ⟨w.heap.size, 0, none⟩) 1 1)) (w.alloc (.cells #[.int .u8 b] 5)) := by kernel_rfl

theorem cell_of {w w' : World} {A : Option Addr} {c : Nat} {l : List UInt8} (hr : Rd w 1 (.slice A l.length c) l.length (bytesV l)) (hU : Upd w w' []) (i : Nat) (hi : i < l.length) :
    ∃ a, A = some a ∧ w'.cell? (a.add ((i : Int).toNat * 1)) = some (.int .u8 (l.getD i 0).toNat) := by
  obtain ⟨A', c', he, _, _, hc⟩ := hr
  injection he with h1 h2 h3
  subst h1
  obtain ⟨a, ha, hx⟩ := hc i (.int .u8 (l.getD i 0).toNat) (by simp [bytesV, hi, List.getD])
  refine ⟨a, ha, ?_⟩
  rw [show (i : Int).toNat * 1 = i by omega, hU.cell (World.block_lt_of_cell? w _ hx) (by simp)]; exact hx

theorem CrcTogether_spec (w : World) (va vb vc : Value) (a b c : List UInt8) (ha : a.length ≤ 140737488351232) (hb : b.length ≤ 140737488351232) (hc : c.length ≤ 140737488351232)
    (hra : Rd w 1 va a.length (bytesV a)) (hrb : Rd w 1 vb b.length (bytesV b)) (hrc : Rd w 1 vc c.length (bytesV c)) :
    CallsR Try.prog 5 #[va, vb, vc] w fun r w' => r = .bool true ∧ Upd w w' [] := by
  apply flotillalaw02_CrcTogether_sound
  unfold flotillalaw02_CrcTogether_x
  have hra' := hra
  have hrb' := hrb
  have hrc' := hrc
  obtain ⟨A, ca, rfl, hca, -⟩ := hra'
  obtain ⟨B, cb, rfl, hcb, -⟩ := hrb'
  obtain ⟨C, cc, rfl, hcc, -⟩ := hrc'
  simp (disch := omega) only [PX]
  obtain ⟨n, hna, hnb, hnc, hn5, hmin⟩ := min4 (P := Try.prog) (w := w) (ats := #[3, 3, 3, 3]) (ty := 3) (c := [false, false, false, true]) (q := .i64) a.length b.length c.length 5000
  have hmin : ∀ w, (sBuiltin .min #[3, 3, 3, 3] 3 [false, false, false, true] [.int .i64 a.length, .int .i64 b.length, .int .i64 c.length, .int .i64 5000]).run Try.prog w = .ok (.value (.int .i64 n)) w := hmin
  rw [step_run (hmin w)]
  refine st_newRow empty_row (Upd.refl w []) (Owns.nil w) ?_
  intro g w1 hU1 hO1 hg
  refine st_loop (fun vs w' => ∃ (i : Nat) (h : List (Nat × Obj)), i ≤ n ∧ vs.getD 1 undef = .int .i64 i
      ∧ RowH 5 1 (vs.getD 0 undef) i (bytesV (x3 a b c i)) h ∧ Owns w' h ∧ Upd w w' [] ∧ (∀ p ∈ h, w.heap.size ≤ p.1))
    (fun vs _ => n - (intOf (vs.getD 1 undef)).toNat) ⟨0, [_], by omega, rfl, row0 g, hO1, hU1, fun p hp => by simp at hp; subst hp; exact hg⟩ ?_
  rintro dv vs w2 - ⟨i, h, hi, e1, hrow, hO, hU, hh⟩
  have hne : ∃ w', (fun w' => Upd w w' []) w' := ⟨w, Upd.refl w []⟩
  simp (disch := omega) only [e1, PX, BX]
  refine ⟨fun hlt => ?_, fun hge => ?_⟩
  · have hlt' : i < n := by omega
    refine st_draw (fun w' => Upd w w' []) (hU.trans (Upd.drew w2 [])) ?_
    obtain ⟨qa, rfl, -⟩ := cell_of hra (Upd.refl w []) i (by omega)
    obtain ⟨qb, rfl, -⟩ := cell_of hrb (Upd.refl w []) i (by omega)
    obtain ⟨qc, rfl, -⟩ := cell_of hrc (Upd.refl w []) i (by omega)
    have lda : ∀ w', Upd w w' [] → (sLoad 5 (.pointer (some (qa.add ((i : Int).toNat * 1))))).run Try.prog w' = .ok (.value (.int .u8 (a.getD i 0).toNat)) w' := fun w' hw => by
      obtain ⟨q, hq, hx⟩ := cell_of hra hw i (by omega)
      injection hq with hq; subst hq; exact run_sLoad (run_loadVar1 ag5 hx)
    have ldb : ∀ w', Upd w w' [] → (sLoad 5 (.pointer (some (qb.add ((i : Int).toNat * 1))))).run Try.prog w' = .ok (.value (.int .u8 (b.getD i 0).toNat)) w' := fun w' hw => by
      obtain ⟨q, hq, hx⟩ := cell_of hrb hw i (by omega)
      injection hq with hq; subst hq; exact run_sLoad (run_loadVar1 ag5 hx)
    have ldc : ∀ w', Upd w w' [] → (sLoad 5 (.pointer (some (qc.add ((i : Int).toNat * 1))))).run Try.prog w' = .ok (.value (.int .u8 (c.getD i 0).toNat)) w' := fun w' hw => by
      obtain ⟨q, hq, hx⟩ := cell_of hrc hw i (by omega)
      injection hq with hq; subst hq; exact run_sLoad (run_loadVar1 ag5 hx)
    rw [stepS_run hne fun w' hw => run_idxS u22 sz5 (by omega) (by omega), stepS_run hne lda]
    rw [stepS_run hne fun w' hw => run_idxS u22 sz5 (by omega) (by omega), stepS_run hne ldb]
    simp (disch := first | exact hne | omega) only [SX, xor8]
    rw [stepS_run hne fun w' hw => run_idxS u22 sz5 (by omega) (by omega), stepS_run hne ldc]
    simp (disch := first | exact hne | omega) only [SX, xor8]
    refine st_newRow (one_row _) (hU.trans (Upd.drew w2 [])) (hO.ext (Upd.drew w2 [])) ?_
    intro g3 w3 hU3 hO3 hg3
    refine st_same hU3 ?_
    refine st_app (F := [(g3, _)]) (b := [a.getD i 0 ^^^ b.getD i 0 ^^^ c.getD i 0]) hrow (hO3.perm (by simpa using List.perm_append_comm (l₁ := [_]) (l₂ := h))) hU3 (fun p hp => .inr (hh p hp)) (rd_row (n := 1) (c := 1) (hO3.at_ 0 rfl) rfl (by omega) rfl) (by omega) ?_
    intro v4 w4 h4 hr4 hO4 hU4 hh4
    refine st_keepT (fun w' => Upd w w' []) hU4 ?_
    simp (disch := omega) only [PX, w64]
    refine ⟨⟨i + 1, h4, by omega, rfl, ?_, hO4.sub (List.sublist_append_left _ _), hU4, fun p hp => (hh4 p hp).resolve_left (by simp)⟩, ?_⟩
    · rw [x3_succ]; exact hr4
    · simp only [List.getD_cons_succ, List.getD_cons_zero, intOf]; omega
  · obtain rfl : i = n := by omega
    unfold flotillalaw02_CrcTogether_k1
    have hki : ((i : Nat) : Int).toNat = i := by omega
    have tk : ∀ {v : List UInt8} {q : Option Addr} {cv : Nat} (hv : Rd w 1 (.slice q v.length cv) v.length (bytesV v)) (hi : i ≤ v.length) (w' : World) (hw : Upd w w' []), Rd w' 1 (.slice (if cv = 0 then q else q.map (·.add 0)) i cv) (v.take i).length (bytesV (v.take i)) := by
      intro v q cv hv hi w' hw
      have := (hv.take hi).mono hw
      rw [Nat.mul_one, show (bytesV v).take i = bytesV (v.take i) by simp [bytesV, List.map_take]] at this
      rw [List.length_take, Nat.min_eq_left hi]
      exact this
    refine st_draw (fun w' => Upd w w' []) (hU.trans (Upd.drew w2 [])) ?_
    rw [stepS_run hne fun w' hw => run_sliceTo u22 sz5 (by omega) (by omega), stepS_run hne fun w' hw => run_sliceTo u22 sz5 (by omega) (by omega), stepS_run hne fun w' hw => run_sliceTo u22 sz5 (by omega) (by omega), hki]
    refine st_call (Sum_spec _ _ (a.take i) (by simp; omega) (tk hra hna _ (hU.trans (Upd.drew w2 [])))) ?_
    rintro _ w3 ⟨rfl, hU3⟩
    have hV3 := (Upd.drew w2 []).trans hU3
    have hU3 := hU.trans hV3
    refine st_same hU3 ?_
    refine st_call (Sum_spec _ _ (b.take i) (by simp; omega) (tk hrb hnb _ hU3)) ?_
    rintro _ w4 ⟨rfl, hU4⟩
    have hV4 := hV3.trans hU4
    have hU4 := hU3.trans hU4
    refine st_same hU4 ?_
    simp (disch := first | exact hne | exact more_lt _ _ | omega) only [SX, bit_xor]
    refine st_call (Sum_spec _ _ (c.take i) (by simp; omega) (tk hrc hnc _ hU4)) ?_
    rintro _ w5 ⟨rfl, hU5⟩
    have hV5 := hV4.trans hU5
    have hU5 := hU4.trans hU5
    refine st_same hU5 ?_
    simp (disch := first | exact hne | exact more_lt _ _ | exact xor_lt32 (more_lt _ _) (more_lt _ _) | omega) only [SX, bit_xor]
    have hO5 : Owns w5 h := hO.ext hV5
    refine st_call (Sum_spec _ _ (x3 a b c i) (by rw [x3_len]; omega) (by rw [x3_len]; exact hrow.rd (F := []) (by simpa using hO5))) ?_
    rintro _ w6 ⟨rfl, hU6⟩
    have hU6 := hU5.trans hU6
    refine st_same hU6 ?_
    rw [sx_eql hne, bool_dec, x3_more a b c i hna hnb hnc]
    refine ⟨fun _ => ?_, fun hd => absurd rfl hd⟩
    refine st_call (lives_spec w6) ?_
    rintro _ w7 ⟨rfl, hU7⟩
    exact st_keepT (fun w' => Upd w w' []) (hU6.trans hU7) ⟨rfl, hU6.trans hU7⟩

end Go.Proofs.Ytpbejopmgnglnaa
