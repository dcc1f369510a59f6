/- Ported from another seat (crc/S2.lean). -/
import Derived.Test.YtconmaojfkmlnaaCrcS
namespace Go.Proofs.Ytconmaojfkmlnaa.Crc
open Go Go.Proofs.Ytconmaojfkmlnaa Xf Go.RowKit
set_option linter.unusedVariables false
set_option linter.unusedSimpArgs false
set_option maxRecDepth 100000

theorem wrap_u8 (n : Nat) : IntKind.wrap .u8 (n : Int) = ((n % 256 : Nat) : Int) := by
  rw [IntKind.wrap_u8]; omega
def le4 (n : Nat) : List UInt8 := [UInt8.ofNat n, UInt8.ofNat (n / 256), UInt8.ofNat (n / 65536), UInt8.ofNat (n / 16777216)]
theorem ofNat_toNat (n : Nat) : (UInt8.ofNat n).toNat = n % 256 := by simp
theorem le4_V (n : Nat) : bytesV (le4 n) = [.int .u8 ((n % 256 : Nat) : Int), .int .u8 ((n / 256 % 256 : Nat) : Int), .int .u8 ((n / 65536 % 256 : Nat) : Int), .int .u8 ((n / 16777216 % 256 : Nat) : Int)] := by
  simp [bytesV, le4]
theorem le4_at (n i : Nat) (hi : i < 4) : (le4 n)[i]? = some (UInt8.ofNat (n / 2 ^ (8 * i))) := by
  rcases (by omega : i = 0 ∨ i = 1 ∨ i = 2 ∨ i = 3) with rfl | rfl | rfl | rfl <;> simp [le4]
theorem tdv (n k : Nat) : Int.tdiv (n : Int) (k : Int) = ((n / k : Nat) : Int) := rfl
theorem four_row (a b c d : Int) (w : World) : (sBuildSlice 22 4 [(0, .int .u8 a), (1, .int .u8 b), (2, .int .u8 c), (3, .int .u8 d)]).run Try.prog w = .ok (.value (.slice (some ⟨w.heap.size, 0, none⟩) 4 4)) (w.alloc (.cells #[.int .u8 a, .int .u8 b, .int .u8 c, .int .u8 d] 5)) := by kernel_rfl

theorem Four_spec (w : World) (n : Nat) (hn : n < 4294967296) : CallsR Try.prog 67 #[.int .u32 n] w fun r w' => r = .string ⟨(le4 n).toArray⟩ ∧ Upd w w' [] := by
  apply flotillaref02_Four_sound
  unfold flotillaref02_Four_x
  have h1 : Int.tmod (n : Int) 256 = ((n % 256 : Nat) : Int) := tmod_nat n 256
  have h2 : Int.tdiv (n : Int) 256 = ((n / 256 : Nat) : Int) := tdv n 256
  have h3 : Int.tdiv (n : Int) 65536 = ((n / 65536 : Nat) : Int) := tdv n 65536
  have h4 : Int.tdiv (n : Int) 16777216 = ((n / 16777216 : Nat) : Int) := tdv n 16777216
  have h5 : Int.tmod ((n / 256 : Nat) : Int) 256 = ((n / 256 % 256 : Nat) : Int) := tmod_nat _ 256
  have h6 : Int.tmod ((n / 65536 : Nat) : Int) 256 = ((n / 65536 % 256 : Nat) : Int) := tmod_nat _ 256
  simp (disch := omega) only [PX, h1, h2, h3, h4, wrap_u32, h5, h6, wrap_u8, Nat.mod_mod]
  refine st_newRow (four_row _ _ _ _) (Upd.refl w []) (Owns.nil w) ?_
  intro g w1 hU1 hO1 hg
  rw [step_run (run_str (l := le4 n) u22 u5 u9 (rd_row (hO1.at_ 0 rfl) (by rw [bytesV_len]; rfl) (by omega) (by rw [le4_V]; rfl)))]
  exact ⟨rfl, hU1⟩

theorem rSeal_spec (w : World) (l : List UInt8) (hl : l.length < 4611686018427387904) : CallsR Try.prog 53 #[.string ⟨l.toArray⟩] w fun r w' => r = .string ⟨(l ++ le4 (more 0 l)).toArray⟩ ∧ Upd w w' [] := by
  apply flotillaref02_Seal_sound
  unfold flotillaref02_Seal_x
  refine st_call (rSum_spec w l (by omega)) ?_
  rintro _ w1 ⟨rfl, rfl⟩
  refine st_call (Four_spec w1 _ (more_lt _ _)) ?_
  rintro _ w2 ⟨rfl, hU⟩
  have hs : (⟨(le4 (more 0 l)).toArray⟩ : ByteArray).size = 4 := rfl
  simp (disch := simp only [size_mk, hs]; omega) only [PX, mk_append]
  exact ⟨by trivial, hU⟩

theorem empty_row (w : World) : (sBuildSlice 22 0 []).run Try.prog w = .ok (.value (.slice (some ⟨w.heap.size, 0, none⟩) 0 0)) (w.alloc (.cells #[] 5)) := by kernel_rfl
theorem row0 (g : Nat) : RowH 5 1 (.slice (some ⟨g, 0, none⟩) 0 0) 0 [] [(g, .cells #[] 5)] := ⟨rfl, .inr ⟨g, 0, #[], rfl, rfl, Nat.le_refl _, Nat.zero_le _, rfl, rfl⟩⟩

/-- append of bytes onto a row of bytes -/
theorem st_app {w W : World} {K : Value → World → Prop} {ty : TypeId} {c : List Bool} {v u : Value} {n m : Nat} {a b : List UInt8} {h F : List (Nat × Obj)} {ks : List Nat} (hr : RowH 5 1 v n (bytesV a) h) (hO : Owns w (h ++ F)) (hU : Upd W w ks) (hh : ∀ p ∈ h, p.1 ∈ ks ∨ W.heap.size ≤ p.1)
    (hrd : Rd w 1 u m (bytesV b)) (hby : n + m ≤ 140737488355328)
    (hk : ∀ v' w' h', RowH 5 1 v' (n + m) (bytesV (a ++ b)) h' → Owns w' (h' ++ F) → Upd W w' ks → (∀ p ∈ h', p.1 ∈ ks ∨ W.heap.size ≤ p.1) → K v' w') : (std Try.prog).step (sBuiltin .append #[22, 22] ty c [v, u]) w K := by
  obtain ⟨i, hi, hz, hs, hb⟩ := inf5
  refine st_append u22 hi hz hs hb rfl (by omega) hr hO hU hh hrd (bytesV_one b) (by unfold maxLen; omega) (by omega) ?_
  have he : bytesV a ++ bytesV b = bytesV (a ++ b) := by simp [bytesV]
  rw [he]
  exact hk

/-- what is answered is bytes in new memory -/
def NewBytes (w w' : World) (v : Value) (l : List UInt8) : Prop := ∃ h, RowH 5 1 v l.length (bytesV l) h ∧ Owns w' h ∧ Upd w w' [] ∧ ∀ p ∈ h, w.heap.size ≤ p.1

theorem Seal_spec (w : World) (v : Value) (l : List UInt8) (hl : l.length < 140737488350000) (hr : Rd w 1 v l.length (bytesV l)) : CallsR Try.prog 38 #[v] w fun r w' => NewBytes w w' r (l ++ le4 (more 0 l)) := by
  apply crc_Seal_sound
  unfold crc_Seal_x
  refine st_call (Sum_spec w v l (by omega) hr) ?_
  rintro _ w1 ⟨rfl, hU1⟩
  refine st_newRow empty_row hU1 (Owns.nil w1) ?_
  intro g w2 hU2 hO2 hg
  refine st_app (F := []) (a := []) (row0 g) hO2 hU2 (fun p hp => by simp at hp; subst hp; exact .inr hg) (hr.mono hU2) (by omega) ?_
  intro v3 w3 h3 hr3 hO3 hU3 hh3
  have hn := more_lt 0 l
  generalize hN : more 0 l = n at hn
  have e8 : Int.fdiv (n : Int) (2 ^ (min (Int.toNat 8) (IntKind.bits .u32))) = ((n / 256 : Nat) : Int) := shr_u32 n 8 (by omega)
  have e16 : Int.fdiv (n : Int) (2 ^ (min (Int.toNat 16) (IntKind.bits .u32))) = ((n / 65536 : Nat) : Int) := shr_u32 n 16 (by omega)
  have e24 : Int.fdiv (n : Int) (2 ^ (min (Int.toNat 24) (IntKind.bits .u32))) = ((n / 16777216 : Nat) : Int) := shr_u32 n 24 (by omega)
  simp (disch := omega) only [PX, wrap_u8, e8, e16, e24]
  refine st_newRow (four_row _ _ _ _) hU3 hO3 ?_
  intro g4 w4 hU4 hO4 hg4
  refine st_app (F := [(g4, _)]) (b := le4 n) hr3 (hO4.perm (by simpa using List.perm_append_comm (l₁ := [_]) (l₂ := h3))) hU4 hh3 (rd_row (n := 4) (c := 4) (hO4.at_ 0 rfl) (by rw [bytesV_len]; rfl) (by omega) (by rw [le4_V]; rfl)) (by omega) ?_
  intro v5 w5 h5 hr5 hO5 hU5 hh5
  refine ⟨h5, ?_, hO5.sub (List.sublist_append_left _ _), hU5, fun p hp => (hh5 p hp).resolve_left (by simp)⟩
  have : (l ++ le4 n).length = 0 + l.length + 4 := by simp [le4]
  rw [this]
  simpa using hr5


/-- the document's way to open -/
def openL (l : List UInt8) : List UInt8 × Nat :=
  if l.length < 4 then ([], 4) else if l.drop (l.length - 4) = le4 (more 0 (l.take (l.length - 4))) then (l.take (l.length - 4), 0) else ([], 6)

theorem mk_extract (l : List UInt8) (a b : Nat) : (⟨l.toArray⟩ : ByteArray).extract a b = ⟨((l.drop a).take (b - a)).toArray⟩ := by
  apply ByteArray.ext
  apply Array.ext'
  rw [ByteArray.data_extract]
  simp [List.extract_eq_take_drop]
/-- x[:hi] and x[lo:] of a string -/
theorem run_strTo {P : Program} {w : World} {t : TypeId} {l : List UInt8} {q : IntKind} {i : Int} (ht : P.underlying t = some .string) (h0 : 0 ≤ i) (h1 : i ≤ l.length) :
    (sSlice t (.string ⟨l.toArray⟩) none (some (.int q i)) none).run P w = .ok (.value (.string ⟨(l.take i.toNat).toArray⟩)) w := by
  unfold sSlice Instr.sliceAt
  rw [run_sV, Sem.run_bind, run_underlying' ht]
  have hb : i ≤ ((⟨l.toArray⟩ : ByteArray).size : Nat) := by rw [size_mk]; exact h1
  simp only [Result.andThen_ok, Instr.slice, Sem.run_bind, run_underlying' ht, Instr.sliceBounds, Sem.run_pure, sliceBound_run h0 hb, Option.isSome_none, Bool.false_eq_true, if_false, mk_extract, List.drop_zero, Nat.sub_zero]
theorem run_strFrom {P : Program} {w : World} {t : TypeId} {l : List UInt8} {q : IntKind} {i : Int} (ht : P.underlying t = some .string) (h0 : 0 ≤ i) (h1 : i ≤ l.length) :
    (sSlice t (.string ⟨l.toArray⟩) (some (.int q i)) none none).run P w = .ok (.value (.string ⟨(l.drop i.toNat).toArray⟩)) w := by
  unfold sSlice Instr.sliceAt
  rw [run_sV, Sem.run_bind, run_underlying' ht]
  have hb : i ≤ ((⟨l.toArray⟩ : ByteArray).size : Nat) := by rw [size_mk]; exact h1
  simp only [Result.andThen_ok, Instr.slice, Sem.run_bind, run_underlying' ht, Instr.sliceBounds, Sem.run_pure, sliceBound_run h0 h1, Option.isSome_none, Bool.false_eq_true, if_false, mk_extract, size_mk, Result.andThen_ok]
  rw [List.take_of_length_le (by rw [List.length_drop]; exact Nat.le_refl _)]

theorem rOpen_spec (w : World) (l : List UInt8) (hl : l.length < 4611686018427387904) : CallsR Try.prog 35 #[.string ⟨l.toArray⟩] w fun r w' => r = .tuple #[.string ⟨(openL l).1.toArray⟩, .int .i64 ((openL l).2 : Nat)] ∧ Upd w w' [] := by
  apply flotillaref02_Open_sound
  unfold flotillaref02_Open_x
  simp (disch := omega) only [PX, BX, size_mk, w64]
  refine ⟨fun h => ?_, fun h => ?_⟩
  · unfold openL
    rw [if_pos (by omega)]
    exact ⟨rfl, Upd.refl w []⟩
  have hne : ∃ w', (fun w' => Upd w w' []) w' := ⟨w, Upd.refl w []⟩
  refine st_draw (fun w' => Upd w w' []) (Upd.drew w []) ?_
  rw [stepS_run hne fun w' hw => run_strFrom u9 (by omega) (by omega), stepS_run hne fun w' hw => run_strTo u9 (by omega) (by omega)]
  have hk : ((l.length : Int) - 4).toNat = l.length - 4 := by omega
  rw [hk]
  refine st_call (rSum_spec _ (l.take (l.length - 4)) (by simp; omega)) ?_
  rintro _ w1 ⟨rfl, rfl⟩
  refine st_same (Upd.drew w []) ?_
  refine st_call (Four_spec _ _ (more_lt _ _)) ?_
  rintro _ w2 ⟨rfl, hU2⟩
  have hU2 := (Upd.drew w []).trans hU2
  refine st_same hU2 ?_
  rw [sx_sneq hne]
  simp only [BX, mk_inj]
  unfold openL
  rw [if_neg (by omega)]
  refine ⟨fun he => ?_, fun he => ?_⟩
  · rw [step_run (run_strTo u9 (by omega) (by omega)), hk, if_pos he]
    exact ⟨rfl, hU2⟩
  · rw [if_neg he]
    exact ⟨rfl, hU2⟩

theorem four_eq (a b : List UInt8) (hb : b.length = 4) (ha : a.length = 4) (h : ∀ i, i < 4 → a[i]? = b[i]?) : a = b := by
  apply List.ext_getElem?
  intro i
  by_cases hi : i < 4
  · exact h i hi
  · rw [List.getElem?_eq_none (by omega), List.getElem?_eq_none (by omega)]

theorem Open_spec (w : World) (v : Value) (l : List UInt8) (hl : l.length < 140737488350000) (hr : Rd w 1 v l.length (bytesV l)) :
    CallsR Try.prog 34 #[v] w fun r w' => ∃ u, r = .tuple #[u, .int .i64 ((openL l).2 : Nat)] ∧ NewBytes w w' u (openL l).1 := by
  apply crc_Open_sound
  unfold crc_Open_x
  have hr' := hr
  obtain ⟨A, c, rfl, hc, hlen, hcell⟩ := hr'
  simp (disch := omega) only [PX, BX, w64]
  have none_ : ∀ (w' : World), Upd w w' [] → NewBytes w w' (.slice none 0 0) [] := fun w' hU => ⟨[], RowH.nil_ 5 1, Owns.nil _, hU, fun p hp => by cases hp⟩
  refine ⟨fun h => ?_, fun h => ?_⟩
  · unfold openL
    rw [if_pos (by omega)]
    exact ⟨_, rfl, none_ w (Upd.refl w [])⟩
  have hk : ((l.length : Int) - 4).toNat = l.length - 4 := by omega
  rw [step_run (run_sliceTo u22 sz5 (by omega) (by omega)), hk]
  have hrt := hr.take (i := l.length - 4) (by omega)
  rw [Nat.mul_one, show (bytesV l).take (l.length - 4) = bytesV (l.take (l.length - 4)) by simp [bytesV, List.map_take]] at hrt
  have hlt : (l.take (l.length - 4)).length = l.length - 4 := by simp
  refine st_call (Sum_spec w _ (l.take (l.length - 4)) (by omega) (by rw [hlt]; exact hrt)) ?_
  rintro _ w1 ⟨rfl, hU1⟩
  have hn := more_lt 0 (l.take (l.length - 4))
  generalize hN : more 0 (l.take (l.length - 4)) = n at hn
  refine st_loop (fun vs w' => ∃ i : Nat, i ≤ 4 ∧ vs.getD 3 undef = .int .i64 i ∧ Upd w w' [] ∧ ∀ j, j < i → l[l.length - 4 + j]? = (le4 n)[j]?) (fun vs _ => 4 - (intOf (vs.getD 3 undef)).toNat) ⟨0, by omega, rfl, hU1, fun j hj => by omega⟩ ?_
  rintro dv vs w2 - ⟨i, hi, e3, hU2, hall⟩
  simp (disch := omega) only [e3, PX, BX]
  refine ⟨fun hlt4 => ?_, fun hge => ?_⟩
  · have hi4 : i < 4 := by omega
    have hj : l.length - 4 + i < l.length := by omega
    have hne : ∃ w', (fun w' => Upd w w' []) w' := ⟨w, Upd.refl w []⟩
    refine st_draw (fun w' => Upd w w' []) (hU2.trans (Upd.drew w2 [])) ?_
    simp (disch := first | exact hne | omega) only [SX, w64]
    obtain ⟨a, rfl, hca⟩ := hcell (l.length - 4 + i) (.int .u8 l[l.length - 4 + i].toNat) (by simp [bytesV, hj])
    rw [stepS_run hne fun w' hw => run_idxS u22 sz5 (by omega) (by omega)]
    have hld : ∀ w', Upd w w' [] → (sLoad 5 (.pointer (some (a.add (((l.length : Int) - 4 + i).toNat * 1))))).run Try.prog w' = .ok (.value (.int .u8 l[l.length - 4 + i].toNat)) w' := fun w' hw => run_sLoad (run_loadVar1 ag5 (by
      rw [show ((l.length : Int) - 4 + i).toNat * 1 = l.length - 4 + i by omega, hw.cell (World.block_lt_of_cell? w _ hca) (by simp)]; exact hca))
    rw [stepS_run hne hld]
    simp (disch := first | exact hne | omega) only [SX, w64]
    have hs : Int.fdiv (n : Int) (2 ^ (min (Int.toNat (8 * (i : Int))) (IntKind.bits .u32))) = ((n / 2 ^ (8 * i) : Nat) : Int) := by
      have := shr_u32 n (8 * i) (by omega)
      rwa [show ((8 * i : Nat) : Int) = 8 * (i : Int) by omega] at this
    rw [hs, wrap_u8, bool_dec]
    have hq := le4_at n i hi4
    refine ⟨fun hd => ?_, fun he => ?_⟩
    · unfold openL
      rw [if_neg (by omega), hN, if_neg]
      · exact ⟨_, rfl, none_ _ (hU2.trans (Upd.drew w2 []))⟩
      · intro hx
        have h1 : (l.drop (l.length - 4))[i]? = (le4 n)[i]? := by rw [hx]
        rw [List.getElem?_drop, List.getElem?_eq_getElem hj, hq] at h1
        injection h1 with h1
        apply hd
        rw [h1, ofNat_toNat]
    · refine ⟨⟨i + 1, by omega, rfl, hU2.trans (Upd.drew w2 []), fun j hjl => ?_⟩, ?_⟩
      · by_cases h2 : j < i
        · exact hall j h2
        · obtain rfl : j = i := by omega
          rw [List.getElem?_eq_getElem hj, hq]
          have he' : (l[l.length - 4 + j].toNat : Int) = ((n / 2 ^ (8 * j) % 256 : Nat) : Int) := by omega
          congr 1
          apply UInt8.toNat_inj.1
          rw [ofNat_toNat]
          omega
      · simp only [List.getD_cons_succ, List.getD_cons_zero, intOf]; omega
  · obtain rfl : i = 4 := by omega
    have hok : l.drop (l.length - 4) = le4 n := four_eq _ _ rfl (by simp; omega) fun i hi => by rw [List.getElem?_drop]; exact hall i hi
    unfold crc_Open_k1 openL
    rw [if_neg (by omega), hN, if_pos hok]
    refine st_newRow empty_row hU2 (Owns.nil w2) ?_
    intro g w3 hU3 hO3 hg
    rw [step_run (run_sliceTo u22 sz5 (by omega) (by omega)), hk]
    refine st_app (F := []) (a := []) (row0 g) hO3 hU3 (fun p hp => by simp at hp; subst hp; exact .inr hg) (hrt.mono hU3) (by omega) ?_
    intro v4 w4 h4 hr4 hO4 hU4 hh4
    refine ⟨v4, rfl, h4, ?_, by simpa using hO4, hU4, fun p hp => (hh4 p hp).resolve_left (by simp)⟩
    rw [hlt]
    simpa using hr4

end Go.Proofs.Ytconmaojfkmlnaa.Crc
