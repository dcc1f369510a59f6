/- The statements of the layer crc, walked. -/
import Derived.Test.YtpbejopmgnglnaaS2
namespace Go.Proofs.Ytpbejopmgnglnaa
open Go Xf Go.RowKit
set_option linter.unusedVariables false
set_option linter.unusedSimpArgs false
set_option maxRecDepth 100000

theorem NewBytes.rd {w w' : World} {v : Value} {l : List UInt8} (h : NewBytes w w' v l) : Rd w' 1 v l.length (bytesV l) := by
  obtain ⟨h, hr, hO, _, _⟩ := h
  exact hr.rd (F := []) (by simpa using hO)

theorem CrcSeals_spec (w : World) (vb vr : Value) (b raw : List UInt8) (hb : b.length ≤ 140737488351232) (hraw : raw.length ≤ 140737488351232) (hrb : Rd w 1 vb b.length (bytesV b)) (hrr : Rd w 1 vr raw.length (bytesV raw)) :
    CallsR Try.prog 6 #[vb, vr] w fun r w' => r = .bool true ∧ Upd w w' [] := by
  apply flotillalaw02_CrcSeals_sound
  unfold flotillalaw02_CrcSeals_x
  have hra' := hrb
  have hrb' := hrr
  obtain ⟨A, c, rfl, -⟩ := hra'
  obtain ⟨B, d, rfl, -⟩ := hrb'
  simp (disch := omega) only [PX, BX, w64]
  refine ⟨fun h => ?_, fun h => ?_⟩
  · exact st_call (lives_spec w) fun v w' hv => hv
  refine st_call (Open_spec w _ raw (by omega) hrr) ?_
  rintro _ w1 ⟨x, rfl, hN⟩
  have hU1 : Upd w w1 [] := by obtain ⟨_, _, _, hU, _⟩ := hN; exact hU
  rw [px_ext20, px_ext21, step_run (run_str u22 u5 u9 (hrr.mono hU1))]
  refine st_call (rOpen_spec w1 raw (by omega)) ?_
  rintro _ w2 ⟨rfl, hU2⟩
  have hx2 := hN.rd.mono hU2
  have hU2 := hU1.trans hU2
  rw [px_ext20, px_ext21]
  have hne : ∃ w', (fun w' => Upd w2 w' []) w' := ⟨w2, Upd.refl w2 []⟩
  refine st_draw (fun w' => Upd w2 w' []) (Upd.drew w2 []) ?_
  rw [stepS_run hne fun w' hw => run_str u22 u5 u9 (hrb.mono (hU2.trans hw))]
  refine st_call (Seal_spec w2.drew _ b (by omega) (hrb.mono (hU2.trans (Upd.drew w2 [])))) ?_
  rintro sv w3 hS
  have hU3 : Upd w2 w3 [] := by obtain ⟨_, _, _, hU, _⟩ := hS; exact (Upd.drew w2 []).trans hU
  refine st_keepS (fun w' => Upd w3 w' []) (fun w' hw => hU3.trans hw) (Upd.refl w3 []) ?_
  have hne3 : ∃ w', (fun w' => Upd w3 w' []) w' := ⟨w3, Upd.refl w3 []⟩
  rw [stepS_run hne3 fun w' hw => run_str u22 u5 u9 (hS.rd.mono hw)]
  refine st_call (rSeal_spec w3 b (by omega)) ?_
  rintro _ w4 ⟨rfl, hU4⟩
  refine st_same hU4 ?_
  rw [sx_seql hne3, bool_dec]
  refine ⟨fun _ => ?_, fun h => absurd rfl h⟩
  rw [stepS_run hne3 fun w' hw => run_str u22 u5 u9 (hx2.mono (hU3.trans hw)), sx_seql hne3, bool_dec]
  refine ⟨fun _ => ?_, fun h => absurd rfl h⟩
  rw [sx_eql hne3, bool_dec]
  refine ⟨fun _ => ?_, fun h => absurd rfl h⟩
  refine st_call (lives_spec w4) ?_
  rintro _ w5 ⟨rfl, hU5⟩
  have hU5 := ((hU2.trans hU3).trans hU4).trans hU5
  exact st_keepT (fun w' => Upd w w' []) hU5 ⟨rfl, hU5⟩

theorem openL_seal (l : List UInt8) : openL (l ++ le4 (more 0 l)) = (l, 0) := by
  unfold openL
  have h4 : (le4 (more 0 l)).length = 4 := rfl
  have hl : (l ++ le4 (more 0 l)).length - 4 = l.length := by simp [h4]
  rw [hl, if_neg (by simp [h4]), List.drop_left, List.take_left, if_pos rfl]

theorem CrcBack_spec (w : World) (vb : Value) (b : List UInt8) (hb : b.length ≤ 140737488351232) (hrb : Rd w 1 vb b.length (bytesV b)) :
    CallsR Try.prog 7 #[vb] w fun r w' => r = .bool true ∧ Upd w w' [] := by
  apply flotillalaw02_CrcBack_sound
  unfold flotillalaw02_CrcBack_x
  have hra' := hrb
  obtain ⟨A, c, rfl, -⟩ := hra'
  simp (disch := omega) only [PX, BX, w64]
  refine ⟨fun h => ?_, fun h => ?_⟩
  · exact st_call (lives_spec w) fun v w' hv => hv
  rw [step_run (run_str u22 u5 u9 hrb)]
  refine st_bytes u9 u22 u5 (Upd.refl w []) (Owns.nil w) ?_
  intro g cap cs m w1 hU1 hO1 hg hm hcap htake hsz
  rw [size_mk] at htake hcap hsz ⊢
  refine st_call (Seal_spec w1 _ b (by omega) (rd_row (hO1.at_ 0 rfl) (by rw [bytesV_len]) hcap htake)) ?_
  rintro sv w2 hS
  refine st_call (Open_spec w2 sv (b ++ le4 (more 0 b)) (by simp [le4]; omega) hS.rd) ?_
  rintro _ w3 ⟨x, rfl, hN⟩
  rw [openL_seal] at hN
  have hS' := hS
  obtain ⟨hs, hrs, hOs, hUs, hfs⟩ := hS'
  rcases hrs.2 with ⟨_, h0, _⟩ | ⟨gs, scap, scs, rfl, rfl, hsn, hsm, hss, hst⟩
  · simp [le4] at h0
  obtain ⟨hx, hrx, hOx, hUx, hfx⟩ := hN
  have hU3 : Upd w w3 [] := (hU1.trans hUs).trans hUx
  rw [px_ext20, px_ext21, openL_seal]
  simp (disch := omega) only [PX, BX, w64]
  refine ⟨fun hd => ?_, fun _ => ?_⟩
  · exfalso; apply hd; simp [le4]
  refine ⟨fun hd => absurd rfl hd, fun _ => ?_⟩
  have hxr := hrx.rd (F := []) (by simpa using hOx)
  rw [step_run (run_str u22 u5 u9 hxr)]
  simp (disch := omega) only [PX, BX, w64]
  refine ⟨fun _ => ?_, fun hd => absurd trivial hd⟩
  have hgs : w.heap.size ≤ gs := Nat.le_trans hU1.size (hfs _ (List.mem_singleton_self _))
  have hO3 : Owns w3 ((gs, .cells scs 5 (0, 0)) :: hx) := by
    refine ⟨?_, fun p hp => ?_⟩
    · simp only [List.map_cons]
      refine List.nodup_cons.2 ⟨fun hm => ?_, hOx.1⟩
      obtain ⟨p, hp, he⟩ := List.mem_map.1 hm
      have h1 := hfx p hp
      have h2 := hOs.lt (List.mem_singleton_self _)
      simp only at h2
      omega
    · rcases List.mem_cons.1 hp with rfl | hp
      · exact (hOs.ext hUx).2 _ (List.mem_singleton_self _)
      · exact hOx.2 p hp
  have hlen : (b ++ le4 (more 0 b)).length = b.length + 4 := by simp [le4]
  have hcs0 : ∀ i, i < b.length + 4 → ∃ q : Int, scs[i]? = some (.int .u8 q) := by
    intro i hi
    have h1 : (bytesV (b ++ le4 (more 0 b)))[i]? = scs[i]? := by
      rw [← hst, List.getElem?_take, if_pos (by omega)]
      simp
    rw [← h1]
    simp only [bytesV, List.getElem?_map]
    rw [List.getElem?_eq_getElem (by omega)]
    exact ⟨_, rfl⟩
  refine st_loop (fun vs w' => ∃ (i : Nat) (ds : Array Value), i ≤ b.length + 4 ∧ vs.getD 0 undef = .int .i64 i ∧ Upd w w' [] ∧ Owns w' ((gs, .cells ds 5 (0, 0)) :: hx) ∧ ds.size = scs.size ∧ ∀ j, j < b.length + 4 → ∃ q : Int, ds[j]? = some (.int .u8 q))
    (fun vs _ => b.length + 4 - (intOf (vs.getD 0 undef)).toNat) ⟨0, scs, by omega, rfl, hU3, hO3, rfl, hcs0⟩ ?_
  rintro dv vs w4 - ⟨i, ds, hi, e0, hU4, hO4, hds, hq⟩
  simp (disch := omega) only [e0, PX, BX, hlen]
  refine ⟨fun hlt => ?_, fun hge => ?_⟩
  · obtain ⟨q, hqi⟩ := hq i (by omega)
    rw [step_run (run_idxS u22 sz5 (by omega) (by omega)), add_mk]
    have hoff : 0 + (i : Int).toNat * 1 = i := by omega
    rw [hoff]
    refine st_loadB ag5 hO4 0 rfl hqi ?_
    simp (disch := omega) only [PX]
    rw [step_run (run_idxS u22 sz5 (by omega) (by omega)), add_mk, hoff]
    have hids : i < ds.size := (Array.getElem?_eq_some_iff.1 hqi).1
    refine st_storeB sz5 rfl hU4 hO4 0 rfl hids (.inr (Nat.zero_le _)) (.inr hgs) ?_
    intro w5 hU5 hO5
    simp (disch := omega) only [PX, w64]
    refine ⟨⟨i + 1, ds.setIfInBounds i (.int .u8 (bitOp .xor .u8 q 255)), by omega, rfl, hU5, by simpa using hO5, by simp [hds], fun j hj => ?_⟩, ?_⟩
    · by_cases hij : i = j
      · subst hij
        exact ⟨bitOp .xor .u8 q 255, by simp [hids]⟩
      · rw [Array.getElem?_setIfInBounds_ne hij]
        exact hq j hj
    · simp only [List.getD_cons_zero, intOf]; omega
  · unfold flotillalaw02_CrcBack_k2
    have hxr4 := hrx.rd (F := []) (by simpa using hO4.sub (List.sublist_cons_self _ hx))
    rw [step_run (run_str u22 u5 u9 hxr4)]
    simp (disch := omega) only [PX, BX]
    refine ⟨fun _ => ?_, fun hd => absurd trivial hd⟩
    refine st_call (lives_spec w4) ?_
    rintro _ w5 ⟨rfl, hU5⟩
    exact ⟨rfl, hU4.trans hU5⟩

end Go.Proofs.Ytpbejopmgnglnaa
