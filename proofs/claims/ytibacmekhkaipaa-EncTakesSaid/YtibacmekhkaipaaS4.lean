/- EncOwn. -/
import Derived.Test.YtibacmekhkaipaaS3
namespace Go.Proofs.Ytibacmekhkaipaa
open Go Xf Go.RowKit
set_option linter.unusedVariables false
set_option linter.unusedSimpArgs false
set_option maxRecDepth 100000

theorem takeR_one {l : List UInt8} {i : Nat} (hi : i < l.length) : takeR (l.drop i) 0 1 = ([l[i]], l.drop (i + 1), 0) := by
  unfold takeR
  rw [if_neg (by omega), if_neg (by simp; omega), List.drop_eq_getElem_cons hi]
  rfl
theorem textB_len (s : List UInt8) : (textB s).length = 2 + min s.length 65535 := by
  unfold textB
  rw [List.length_append, leB_len, List.length_take, Nat.min_comm]

theorem EncOwn_spec (W : World) (v : Value) (l s : List UInt8) (hl : l.length ≤ 140737488351232) (hs : s.length ≤ 140737488351232) (hr : Rd W 1 v l.length (bytesV l)) :
    CallsR Try.prog 3 #[v, .string ⟨s.toArray⟩] W fun r w' => r = .bool true ∧ Upd W w' [] := by
  apply flotillalaw01_EncOwn_sound
  unfold flotillalaw01_EncOwn_x
  have fin : ∀ w', Upd W w' [] → (std Try.prog).calls 10 #[] w' fun r w_1 => r = .bool true ∧ Upd W w_1 [] := fun w' hU => st_call (lives_spec w') fun v w4 h => ⟨h.1, hU.trans h.2⟩
  rw [step_run (run_str u22 u5 u9 hr)]
  refine st_bytes u9 u22 u5 (Upd.refl W []) (Owns.nil W) ?_
  intro gm cap cs m w1 hU1 hO1 hgm hcm hcap htake hsz
  rw [size_mk] at *
  have htake : cs.toList.take l.length = bytesV l := htake
  have hgm1 : gm < w1.heap.size := hO1.lt (List.mem_cons_self ..)
  have hrd1 : Rd w1 1 (.slice (some ⟨gm, 0, none⟩) l.length cap) l.length (bytesV l) := rd_row (hO1.at_ 0 rfl) (bytesV_len l) hcap htake
  refine st_call (Read_spec w1 _ l (by omega) hrd1) ?_
  rintro _ w2 ⟨g, hb, rfl, hR2, hbs⟩
  obtain ⟨u, h1, h2, h3, h4⟩ := hR2
  have hO2 : Owns w2 ((gm, .cells cs 5 (m, m + 1)) :: ((g, .cells #[u, .int .i64 (0 : Nat)] 67 (0, 0)) :: (hb ++ []))) := owns_old h2 (fun p hp => by
    rcases List.mem_cons.1 hp with rfl | hp
    · exact h4
    · rw [List.append_nil] at hp; exact hbs p hp) hgm1 ((hO1.ext h3).at_ 0 rfl)
  have hU2 := hU1.trans h3
  refine flip hU2 hO2 hgm hsz (by unfold maxLen; omega) (fun i hi => ?_) (fun i hi => .inl (by omega)) ?_
  · have : (cs.toList.take l.length)[i]? = (bytesV l)[i]? := by rw [htake]
    rw [List.getElem?_take, if_pos hi] at this
    exact ⟨(l[i].toNat : Nat), by rw [← Array.getElem?_toList, this]; simp [bytesV, hi]⟩
  intro w3 cs' hU3 hO3
  have hR3 : RI W [] g hb l 0 w3 := ⟨u, h1, hO3.sub (.cons _ (List.Sublist.refl _)), hU3, Nat.le_trans hU1.size h4⟩
  clear hO1 hO2 hU1 hU2 hO3 hrd1 h1 h2 h3 h4
  unfold flotillalaw01_EncOwn_k1
  refine st_loop (fun vs w' => ∃ i : Nat, i ≤ l.length ∧ vs.getD 0 undef = .int .i64 i ∧ RI W [] g hb (l.drop i) 0 w') (fun vs _ => l.length - (intOf (vs.getD 0 undef)).toNat) ⟨0, by omega, rfl, hR3⟩ ?_
  rintro dv vs w4 - ⟨i, hi, e0, hR⟩
  -- the rest
  have rest : flotillalaw01_EncOwn_k2 (std Try.prog) (.string ⟨s.toArray⟩) w4 fun r w' => r = .bool true ∧ Upd W w' [] := by
    unfold flotillalaw01_EncOwn_k2
    have hU4 := hR.mid
    simp (disch := omega) only [PX, BX, size_mk]
    refine ⟨fun _ => fin _ hU4, fun hsm => ?_⟩
    refine st_call (New_spec w4) ?_
    rintro _ w5 ⟨gw, rfl, hW5⟩
    refine st_call (Text_spec (W := w4) (F := []) s (by simp) hW5) ?_
    rintro _ w6 hW6
    rw [List.nil_append] at hW6
    have htl := textB_len s
    refine st_call (Done_spec (W := w4) (F := []) (by omega) hW6) ?_
    rintro x w7 ⟨hx, hrx, hOx, hUx, hxs⟩
    have hW6' := hW6
    obtain ⟨vw, hw, hroww, hOw, hUw, hws, hgw⟩ := hW6'
    have hO7 := owns_app hOw hUx hOx hxs
    rcases hrx.2 with ⟨_, hn0, _⟩ | ⟨gx, capx, csx, rfl, rfl, hnc, hcmx, hcsx, htx⟩
    · omega
    have hgx : w4.heap.size ≤ gx := Nat.le_trans hUw.size (hxs (gx, _) (List.mem_cons_self ..))
    refine flip (hUw.trans hUx) hO7 hgx (by omega) (by omega) (fun i hi => ?_) (fun i hi => .inr (Nat.zero_le _)) ?_
    · have : (csx.toList.take ((textB s).length * 1))[i]? = (bytesV (textB s))[i]? := by rw [htx]
      rw [List.getElem?_take, if_pos (by omega)] at this
      exact ⟨((textB s)[i].toNat : Nat), by rw [← Array.getElem?_toList, this]; simp [bytesV, hi]⟩
    intro w8 cs8 hU8 hO8
    have hW8 : WI w4 [] gw (textB s) w8 := ⟨vw, hw, hroww, hO8.sub (.cons _ (List.Sublist.refl _)), hU8, hws, hgw⟩
    unfold flotillalaw01_EncOwn_k3
    refine st_call (Done_spec (W := w4) (F := []) (by omega) hW8) ?_
    intro y w9 hN
    obtain ⟨A, c, rfl, hc, _⟩ := hN.rd
    have hU9 := hU4.trans (hU8.trans hN.upd)
    simp (disch := omega) only [PX, BX, size_mk, w64, flotillalaw01_EncOwn_k4]
    refine ⟨fun _ => ?_, fun h => absurd (by omega) h⟩
    rw [step_run (run_sliceFrom (i := 2) u22 sz5 (by omega) (by omega) hc)]
    have hd := hN.rd.drop (i := 2) (by omega)
    have hbd : (bytesV (textB s)).drop (2 * 1) = bytesV s := by
      have h2 : (textB s).drop 2 = s := by
        unfold textB
        rw [List.drop_append, leB_len, List.drop_of_length_le (by rw [leB_len]; exact Nat.le_refl _), Nat.sub_self, List.nil_append, List.drop_zero, List.take_of_length_le (by omega)]
      rw [Nat.mul_one]
      unfold bytesV
      rw [← List.map_drop, h2]
    rw [hbd, show (textB s).length - 2 = s.length by omega] at hd
    rw [show Int.toNat 2 = 2 from rfl, show (textB s).length - 2 = s.length by omega]
    rw [step_run (run_str u22 u5 u9 hd)]
    simp (disch := omega) only [PX, BX]
    exact ⟨fun _ => fin _ hU9, fun h => absurd trivial h⟩
  simp (disch := omega) only [e0, PX, BX, size_mk]
  refine ⟨fun hlt => ⟨fun h3 => ?_, fun _ => rest⟩, fun _ => rest⟩
  have hlt' : i < l.length := by omega
  refine st_draw (fun _ => True) trivial ?_
  have hne : ∃ w' : World, (fun _ => True) w' := ⟨w4, trivial⟩
  rw [stepS_run hne fun w' _ => run_idxStr (i := ((i : Nat) : Int)) (l := l) (b := l[i]) u9 (by omega) (by simp [hlt'])]
  refine st_call (rByte_spec (hR.ext (Upd.drew w4 []))) ?_
  rintro _ w5 ⟨hR5, rfl⟩
  rw [takeR_one hlt'] at hR5 ⊢
  refine st_same trivial ?_
  simp (disch := first | assumption | omega) only [SX, PX, BX, e0, w64]
  refine ⟨fun h => absurd (by simp [leVal]) h, fun _ => ⟨⟨i + 1, by omega, rfl, hR5⟩, ?_⟩⟩
  simp only [List.getD_cons_zero, intOf]; omega
end Go.Proofs.Ytibacmekhkaipaa
