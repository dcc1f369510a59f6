/- The example; what is handed in is not kept. -/
import Derived.Test.YtibacmekhkaipaaS2
namespace Go.Proofs.Ytibacmekhkaipaa
open Go Xf Go.RowKit
set_option linter.unusedVariables false
set_option linter.unusedSimpArgs false
set_option maxRecDepth 100000

theorem NewB.rd {w w' : World} {r : Value} {l : List UInt8} (h : NewB w w' r l) : Rd w' 1 r l.length (bytesV l) := by
  obtain ⟨hh, h1, h2, _⟩ := h
  exact h1.rd (F := []) (by rw [List.append_nil]; exact h2)
theorem NewB.upd {w w' : World} {r : Value} {l : List UInt8} (h : NewB w w' r l) : Upd w w' [] := by
  obtain ⟨_, _, _, h, _⟩ := h; exact h

theorem lives_spec (w : World) : CallsR Try.prog 10 #[] w fun r w' => r = .bool true ∧ Upd w w' [] := by
  apply flotillalaw01_lives_sound
  unfold flotillalaw01_lives_x
  refine st_call (New_spec w) ?_
  rintro _ w1 ⟨g, rfl, hW1⟩
  simp only [NP, BX]
  refine st_call (Two_spec (W := w) (F := []) (l := []) 258 (by decide) (by omega) hW1) ?_
  rintro _ w2 hW2
  refine st_call (Text_spec (W := w) (F := []) [97] (by decide) hW2) ?_
  rintro _ w3 hW3
  refine st_newRow (fun w => (by kernel_rfl : (sBuildSlice 22 3 [(0, .int .u8 5), (1, .int .u8 0), (2, .int .u8 97)]).run Try.prog w = .ok (.value (.slice (some ⟨w.heap.size, 0, none⟩) 3 3)) (w.alloc (.cells (bytesV [5, 0, 97]).toArray 5)))) (Upd.refl w3 []) (Owns.nil w3) ?_
  intro g4 w4 hU4 hO4 hg4
  have hW4 := hW3.ext hU4
  refine st_call (Read_spec w4 _ [5, 0, 97] (by decide) (rd_row (n := 3) (c := 3) (hO4.at_ 0 rfl) rfl (by omega) rfl)) ?_
  rintro _ w5 ⟨gr, hb, rfl, hR5, _⟩
  have hW5 := hW4.ext hR5.mid
  refine st_call (Done_spec (W := w) (F := []) (by decide) hW5) ?_
  intro r w6 hN
  rw [step_run (run_str u22 u5 u9 hN.rd)]
  have hR6 := hR5.ext hN.upd
  simp (disch := first | assumption | omega) only [NP, PX, BX]
  refine ⟨fun _ => ?_, fun h => absurd (by kernel_rfl) h⟩
  refine st_call (rText_spec 9 hR6) ?_
  rintro _ w7 ⟨hR7, rfl⟩
  simp (disch := first | assumption | omega) only [NP, PX, BX]
  refine ⟨fun _ => ?_, fun h => absurd (by kernel_rfl) h⟩
  refine st_call (rErr_spec hR7) ?_
  rintro _ w8 ⟨rfl, rfl⟩
  simp (disch := first | assumption | omega) only [PX]
  exact ⟨by kernel_rfl, (hW4.mid.trans hR7.mid)⟩

theorem owns_old {W w : World} {H : List (Nat × Obj)} {g : Nat} {o : Obj} (hO : Owns w H) (hH : ∀ p ∈ H, W.heap.size ≤ p.1) (hg : g < W.heap.size) (ho : w.heap[g]? = some o) : Owns w ((g, o) :: H) := by
  refine ⟨?_, fun q hq => ?_⟩
  · rw [List.map_cons]
    refine List.nodup_cons.2 ⟨fun hm => ?_, hO.1⟩
    obtain ⟨q, hq, he⟩ := List.mem_map.1 hm
    have := hH q hq
    omega
  · rcases List.mem_cons.1 hq with rfl | hq
    · exact ho
    · exact hO.2 q hq
theorem owns_app {w w' : World} {H h : List (Nat × Obj)} (hO : Owns w H) (hU : Upd w w' []) (hOh : Owns w' h) (hh : ∀ p ∈ h, w.heap.size ≤ p.1) : Owns w' (h ++ H) := by
  refine ⟨?_, fun q hq => ?_⟩
  · rw [List.map_append]
    refine List.nodup_append.2 ⟨hOh.1, hO.1, fun a ha b hb he => ?_⟩
    obtain ⟨p, hp, rfl⟩ := List.mem_map.1 ha
    obtain ⟨q, hq, rfl⟩ := List.mem_map.1 hb
    have h1 := hh p hp
    have h2 := hO.lt hq
    omega
  · rcases List.mem_append.1 hq with hq | hq
    · exact hOh.2 q hq
    · exact (hO.ext hU).2 q hq

/-- each byte of a row of one's own is turned -/
theorem flip {W w : World} {g n cap lo hi : Nat} {cs : Array Value} {F : List (Nat × Obj)} {K : World → Prop} {o1 o2 o3 o4 : Operand} (hU : Upd W w []) (hO : Owns w ((g, .cells cs 5 (lo, hi)) :: F)) (hg : W.heap.size ≤ g) (hn : n ≤ cs.size) (h63 : n ≤ maxLen)
    (hcs : ∀ i, i < n → ∃ z, cs[i]? = some (.int .u8 z)) (hfr : ∀ i, i < n → i < lo ∨ hi ≤ i) (hK : ∀ w' cs', Upd W w' [] → Owns w' ((g, .cells cs' 5 (lo, hi)) :: F) → K w') :
    (std Try.prog).loop [.int .i64 0] w fun dv vs w again => (std Try.prog).step (sBuiltin .len #[22] 3 [false] [.slice (some ⟨g, 0, none⟩) n cap]) w fun v62 w => (std Try.prog).step (sBin .lss 3 o1 o2 (vs.getD 0 undef) v62) w fun v63 w => (std Try.prog).bool v63
      ((std Try.prog).step (sIndexAddr 22 (.slice (some ⟨g, 0, none⟩) n cap) (vs.getD 0 undef)) w fun v70 w => (std Try.prog).step (sLoad 5 v70) w fun v71 w => (std Try.prog).step (sBin .xor 5 o3 (.const (.int .u8 255)) v71 (.int .u8 255)) w fun v72 w =>
        (std Try.prog).step (sIndexAddr 22 (.slice (some ⟨g, 0, none⟩) n cap) (vs.getD 0 undef)) w fun v73 w => (std Try.prog).step (sStore 5 v73 v72) w fun _ w => (std Try.prog).step (sBin .add 3 o4 (.const (.int .i64 1)) (vs.getD 0 undef) (.int .i64 1)) w fun v65 w => again [v65] w)
      (K w) := by
  refine st_loop (fun vs w' => ∃ (i : Nat) (cs' : Array Value), i ≤ n ∧ vs.getD 0 undef = .int .i64 i ∧ Upd W w' [] ∧ Owns w' ((g, .cells cs' 5 (lo, hi)) :: F) ∧ n ≤ cs'.size ∧ ∀ i, i < n → ∃ z, cs'[i]? = some (.int .u8 z)) (fun vs _ => n - (intOf (vs.getD 0 undef)).toNat) ⟨0, cs, by omega, rfl, hU, hO, hn, hcs⟩ ?_
  rintro dv vs w1 - ⟨i, cs', hi', e0, hU1, hO1, hn1, hcs1⟩
  simp (disch := omega) only [e0, PX, BX]
  refine ⟨fun hlt => ?_, fun _ => hK w1 cs' hU1 hO1⟩
  have hlt' : i < n := by omega
  obtain ⟨z, hz⟩ := hcs1 i hlt'
  have c0 : w1.cell? ⟨g, 0 + i, none⟩ = some (.int .u8 z) := by rw [Nat.zero_add, cell_at (hO1.at_ 0 rfl)]; exact hz
  simp (disch := first | assumption | omega) only [PX, LX, add_mk]
  refine st_storeB sz5 rfl hU1 hO1 0 rfl (by omega) (by rw [Nat.zero_add]; exact hfr i hlt') (.inr hg) ?_
  intro w2 hU2 hO2
  unfold maxLen at h63
  simp (disch := first | assumption | omega) only [PX, w64]
  refine ⟨⟨i + 1, _, by omega, rfl, hU2, hO2, by simpa using hn1, fun j hj => ?_⟩, ?_⟩
  · by_cases hij : 0 + i = j
    · subst hij
      exact ⟨_, by rw [Array.getElem?_setIfInBounds_self, if_pos (by omega)]⟩
    · rw [Array.getElem?_setIfInBounds_ne hij]
      exact hcs1 j hj
  · simp only [List.getD_cons_zero, intOf]; omega
end Go.Proofs.Ytibacmekhkaipaa
