/- Texts of this work, put together: PlN, PlO, PlP, PlQ, PlR, LkCE, PlS, PlT, PlU, PlV, PlW, PlX, PlY, PlZ, PlAA. -/
import Derived.Test.YtakifgecgmdjcaaGreatUP5
/- The document's rings. -/
namespace Go.Proofs.YtakifgecgmdjcaaGreat
open Go Xf Go.RowKit
set_option linter.unusedVariables false
set_option linter.unusedSimpArgs false
set_option maxRecDepth 100000

def unsE (E : List Ed) (out : List Int) : Nat := E.countP fun e => !decide (e.2 ∈ out)
theorem unsE_add {E : List Ed} {out : List Int} {e : Ed} (he : e ∈ E) (h : e.2 ∉ out) : unsE E (out ++ [e.2]) + 1 ≤ unsE E out := by
  unfold unsE
  refine countP_lt (x := e) (fun x hx hq => ?_) he (by rw [decide_eq_false h]; rfl) (by rw [decide_eq_true (by simp)]; rfl)
  have : x.2 ∉ out ++ [e.2] := by simpa using hq
  rw [decide_eq_false (fun hm => this (List.mem_append_left _ hm))]; rfl
section
variable {W w w' : World} {F : List (Nat × Obj)} {E : List Ed} {out : List Int} {v : Value} {a : Int} {e : Ed}
theorem rR_take {b8 i : Nat} {vs : List Value} {again : List Value → World → Prop} {Q : Value → World → Prop} (hG : OutG 3 1 inV W [edBx b8 e] out (vs.getD 1 undef) w) (hl : out.length ≤ 1000000) (e3 : vs.getD 3 undef = .int .i64 (i : Nat)) (hi : i ≤ 1000000)
    (hK1 : e.2 ∈ out → again [.pointer (some ⟨b8, 0, none⟩), vs.getD 1 undef, vs.getD 2 undef, .int .i64 ((i + 1 : Nat) : Int)] w)
    (hK2 : e.2 ∉ out → ∀ v' w', OutG 3 1 inV W [edBx b8 e] (out ++ [e.2]) v' w' → again [.pointer (some ⟨b8, 0, none⟩), v', .bool true, .int .i64 ((i + 1 : Nat) : Int)] w') :
    (std Tryz.prog).calls 20 #[vs.getD 1 undef, .int .i64 e.2] w fun v34_1 w =>
    (std Tryz.prog).step (sUn .not v34_1) w fun v35_1 w =>
    flotillaref12_Reached_k3 (std Tryz.prog) vs again (.pointer (some ⟨b8, 0, none⟩)) v35_1 w Q := by
  refine st_call (Has_spec (hG.rd (by omega)).ints (by omega) e.2) ?_
  rintro _ w1 ⟨rfl, rfl⟩
  unfold flotillaref12_Reached_k3 flotillaref12_Reached_k2
  simp (disch := first | assumption | omega) only [PX]
  rw [bool_var]
  obtain ⟨-, c1, -⟩ := edB_cells (hG.owns.at_ 0 rfl)
  refine ⟨fun hn => ?_, fun hn => ?_⟩
  · have hn : e.2 ∉ out := by simpa using hn
    simp (disch := first | assumption | omega) only [PX, LX, add_mk, Nat.reduceAdd]
    refine hG.push kind_int (by omega) e.2 ?_
    intro v' w2 hG2
    simp (disch := first | assumption | omega) only [e3, PX, w64]
    exact hK2 hn v' w2 hG2
  · have hn : e.2 ∈ out := by simpa using hn
    simp (disch := first | assumption | omega) only [e3, PX, w64]
    exact hK1 hn
def ReachQ (W : World) (E : List Ed) (a : Int) (u : Value) (w' : World) : Prop := ∃ R, RdS w' inV 1 u R ∧ Upd W w' [] ∧ (∀ y, y ∈ R ↔ Path E a y) ∧ R.Nodup ∧ R.length ≤ E.length
theorem rReached_spec (hr : RdS w edV 2 v E) (hE : E.length ≤ 900000) (a : Int) : CallsR Tryz.prog 77 #[v, .int .i64 a] w (ReachQ w E a) := by
  apply flotillaref12_Reached_sound
  unfold flotillaref12_Reached_x
  obtain ⟨A, c, rfl, hll⟩ := rdS_len hr
  have huns : unsE E [] ≤ E.length := List.countP_le_length
  let I : Nat → List Value → World → Prop := fun k vs w' => ∃ out more, k = (if more then unsE E out + 1 else 0) ∧ vs.getD 2 undef = .bool more ∧ OutG 3 1 inV w [] out (vs.getD 1 undef) w' ∧ out.Nodup ∧ out.length + unsE E out ≤ E.length ∧ (∀ y ∈ out, Path E a y) ∧ (more = false → ∀ e ∈ E, (e.1 = a ∨ e.1 ∈ out) → e.2 ∈ out)
  refine st_loop (fun vs w' => ∃ k, I k vs w') (minK I) ⟨_, [], true, rfl, rfl, OutG.nil_ (Upd.refl w []) (Owns.nil w), List.nodup_nil, by simpa using huns, fun y hy => (by cases hy), fun h => (by cases h)⟩ ?_
  rintro dv vs w1 - hex
  obtain ⟨⟨out, more, hk, e2, hG, hnd, hlen, hsd, hcl⟩, -⟩ := minK_spec hex
  generalize minK I vs w1 = k at hk
  clear hex
  rw [e2, bool_var]
  refine ⟨fun hmore => ?_, fun hmore => ?_⟩
  rotate_left
  · unfold flotillaref12_Reached_k1
    refine ⟨out, hG.rd (by omega), hG.U, fun y => ⟨hsd y, fun hp => ?_⟩, hnd, by omega⟩
    induction hp with
    | one h => exact hcl hmore _ h (.inl rfl)
    | more _ h ih => exact hcl hmore _ h (.inr ih)
  rw [hmore, if_pos rfl] at hk
  let J : List Value → World → Prop := fun vs2 w' => ∃ (i : Nat) (out' : List Int) (more' : Bool), i ≤ E.length ∧ vs2.getD 3 undef = .int .i64 i ∧ vs2.getD 2 undef = .bool more' ∧ OutG 3 1 inV w [] out' (vs2.getD 1 undef) w' ∧ out'.Nodup ∧ out'.length + unsE E out' ≤ E.length ∧ (∀ y ∈ out', Path E a y) ∧ (more' = true → unsE E out' + 1 ≤ unsE E out) ∧ (more' = false → out' = out ∧ ∀ e ∈ E.take i, (e.1 = a ∨ e.1 ∈ out) → e.2 ∈ out)
  refine st_loop J (fun vs2 _ => E.length - (intOf (vs2.getD 3 undef)).toNat) ⟨0, out, false, Nat.zero_le _, rfl, rfl, hG, hnd, hlen, hsd, fun h => (by cases h), fun _ => ⟨rfl, by simp⟩⟩ ?_
  clear hG hnd hlen hsd hcl
  rintro dv2 vs2 w2 - ⟨i, out', more', hi, f3, f2, hG, hnd, hlen, hsd, hm1, hm2⟩
  simp (disch := first | assumption | omega) only [f3, PX, BX]
  refine ⟨fun hlt => ?_, fun hge => ?_⟩
  rotate_left
  · obtain rfl : i = E.length := by omega
    rw [List.take_length] at hm2
    refine minK_go (I := I) (k' := if more' then unsE E out' + 1 else 0) ⟨out', more', rfl, f2, hG, hnd, hlen, hsd, fun h => ?_⟩ ?_
    · obtain ⟨rfl, h2⟩ := hm2 h
      exact h2
    · cases more' with
      | true => have := hm1 rfl; simp only [if_true]; omega
      | false => simp only [Bool.false_eq_true, if_false]; omega
  have hi' : i < E.length := by omega
  obtain ⟨a8, c', q1, hc⟩ := ed_at2 hr hi'
  injection q1 with q1; subst q1
  simp (disch := first | assumption | omega) only [PX]
  rw [step_run (run_sLoad (hc w2 hG.U).2.2)]
  refine hG.alloc ze78 ?_
  intro b8 w3 hG3 hb8 _
  refine hG3.putN (vs := edV E[i]) (by rw [sz78]; rfl) 0 rfl (by show 0 + 2 ≤ 2; decide) (kind_ed.one _) hb8 ?_
  intro w4 hG4 _
  have hG4 : OutG 3 1 inV w [edBx b8 E[i]] out' (vs2.getD 1 undef) w4 := hG4
  obtain ⟨c0, c1, -⟩ := edB_cells (hG4.owns.at_ 0 rfl)
  have htk : E.take (i + 1) = E.take i ++ [E[i]] := List.take_succ_eq_append_getElem hi'
  have heE : E[i] ∈ E := List.getElem_mem hi'
  simp (disch := first | assumption | omega) only [PX, BX, LX, add_mk, Nat.reduceAdd]
  have hG4' : OutG 3 1 inV w [] out' (vs2.getD 1 undef) w4 := hG4.weak (List.nil_sublist _)
  have keep : (E[i].1 = a ∨ E[i].1 ∈ out' → E[i].2 ∈ out') → J [.pointer (some ⟨b8, 0, none⟩), vs2.getD 1 undef, vs2.getD 2 undef, .int .i64 ((i + 1 : Nat) : Int)] w4 := fun h => by
    refine ⟨i + 1, out', more', by omega, rfl, f2, hG4', hnd, hlen, hsd, hm1, fun hm => ?_⟩
    obtain ⟨rfl, h2⟩ := hm2 hm
    refine ⟨rfl, fun e he hc => ?_⟩
    rw [htk] at he
    rcases List.mem_append.1 he with he | he
    · exact h2 e he hc
    · rw [List.mem_singleton] at he; subst he; exact h hc
  have add : (E[i].1 = a ∨ E[i].1 ∈ out') → E[i].2 ∉ out' → ∀ v' w', OutG 3 1 inV w [edBx b8 E[i]] (out' ++ [E[i].2]) v' w' → J [.pointer (some ⟨b8, 0, none⟩), v', .bool true, .int .i64 ((i + 1 : Nat) : Int)] w' := fun hc hn v' w' hG5 => by
    have hu := unsE_add heE hn
    refine ⟨i + 1, out' ++ [E[i].2], true, by omega, rfl, rfl, hG5.weak (List.nil_sublist _), ?_, ?_, fun y hy => ?_, fun _ => ?_, fun h => (by cases h)⟩
    · rw [List.nodup_append]
      exact ⟨hnd, by simp, fun x hx y hy => by rw [List.mem_singleton] at hy; subst hy; exact fun he => hn (he ▸ hx)⟩
    · rw [List.length_append, List.length_singleton]; omega
    · rcases List.mem_append.1 hy with hy | hy
      · exact hsd y hy
      · rw [List.mem_singleton] at hy; subst hy
        rcases hc with hc | hc
        · exact .one (by rw [← hc]; exact heE)
        · exact .more (hsd _ hc) heE
    · cases hmm : more' with
      | true => have := hm1 hmm; omega
      | false => have := (hm2 hmm).1; subst this; omega
  have hmu : ∀ x y z : Value, E.length - (intOf ([x, y, z, Value.int .i64 ((i + 1 : Nat) : Int)].getD 3 undef)).toNat < E.length - (intOf (Value.int .i64 (i : Nat))).toNat := fun x y z => by
    simp only [List.getD_cons_succ, List.getD_cons_zero, intOf]; omega
  refine ⟨fun hx => ?_, fun hx => ?_⟩
  · exact rR_take hG4 (by omega) f3 (by omega) (fun h => ⟨keep fun _ => h, hmu _ _ _⟩) fun h v' w' hG5 => ⟨add (.inl hx) h v' w' hG5, hmu _ _ _⟩
  · refine st_call (Has_spec (hG4.rd (by omega)).ints (by omega) E[i].1) ?_
    rintro _ w5 ⟨rfl, rfl⟩
    rw [bool_dec]
    refine ⟨fun hin => ?_, fun hin => ?_⟩
    · simp (disch := first | assumption | omega) only [PX, BX, LX, add_mk, Nat.reduceAdd]
      exact rR_take hG4 (by omega) f3 (by omega) (fun h => ⟨keep fun _ => h, hmu _ _ _⟩) fun h v' w' hG5 => ⟨add (.inr hin) h v' w' hG5, hmu _ _ _⟩
    · unfold flotillaref12_Reached_k2
      simp (disch := first | assumption | omega) only [f3, PX, w64]
      exact ⟨keep fun h => h.elim (fun h => absurd h hx) fun h => absurd h hin, hmu _ _ _⟩
/-- the document's ring -/
theorem rRing_spec (hr : RdS w edV 2 v E) (hE : E.length ≤ 900000) (a : Int) : CallsR Tryz.prog 60 #[v, .int .i64 a] w fun u w' => ∃ L, RdS w' inV 1 u L ∧ Upd w w' [] ∧ RingL E a L ∧ L.length ≤ E.length := by
  apply flotillaref12_Ring_sound
  unfold flotillaref12_Ring_x
  refine st_call (rReached_spec hr hE a) ?_
  rintro v11 w1 ⟨to, hto, hU1, hmem, hnd, hlen⟩
  obtain ⟨A, c, hv11, hll⟩ := rdS_len hto
  have hr1 := hr.mono hU1
  refine st_loop (fun vs w' => ∃ (i : Nat) (out : List Int), i ≤ to.length ∧ vs.getD 1 undef = .int .i64 i ∧ OutG 3 1 inV w1 [] out (vs.getD 0 undef) w' ∧ out.Pairwise (· < ·) ∧ (∀ y, y ∈ out ↔ y ∈ to.take i ∧ Path E y a) ∧ out.length ≤ i) (fun vs _ => to.length - (intOf (vs.getD 1 undef)).toNat) ⟨0, [], Nat.zero_le _, rfl, OutG.nil_ (Upd.refl w1 []) (Owns.nil w1), List.Pairwise.nil, fun y => by simp, Nat.le_refl _⟩ ?_
  rintro dv vs w2 - ⟨i, out, hi, e1, hG, hp, hout, hol⟩
  have hlenv : ∀ {w K}, (std Tryz.prog).step (sBuiltin .len #[44] 3 [false] [v11]) w K = K (.int .i64 (to.length : Nat)) w := by rw [hv11]; intro w K; simp (disch := first | assumption | omega) only [PX]
  rw [hlenv, e1]
  simp (disch := first | assumption | omega) only [PX, BX]
  refine ⟨fun hlt => ?_, fun hge => ?_⟩
  rotate_left
  · obtain rfl : i = to.length := by omega
    rw [List.take_length] at hout
    unfold flotillaref12_Ring_k1
    exact ⟨out, hG.rd (by omega), hU1.trans hG.U, ⟨hp, fun b => by rw [hout, hmem]⟩, by omega⟩
  have hi' : i < to.length := by omega
  obtain ⟨a8, c8, q8, hc8⟩ := in_at hto hi'
  have hidx : ∀ {w K}, (std Tryz.prog).step (sIndexAddr 44 v11 (.int .i64 (i : Nat))) w K = K (.pointer (some (a8.add i))) w := by rw [q8]; intro w K; exact px_ix44 hi'
  have k0 := hc8 w2 hG.U
  have htk : to.take (i + 1) = to.take i ++ [to[i]] := List.take_succ_eq_append_getElem hi'
  rw [hidx]
  simp (disch := first | assumption | omega) only [PX, LX]
  refine st_call (rReached_spec (hr1.mono hG.U) hE to[i]) ?_
  rintro v23 w3 ⟨R, hR, hU3, hRm, -, hRl⟩
  refine st_call (Has_spec hR.ints (by omega) a) ?_
  rintro _ w4 ⟨rfl, rfl⟩
  have hG3 := hG.upd hU3
  simp (disch := first | assumption | omega) only [PX]
  unfold flotillaref12_Ring_k2
  rw [bool_var]
  refine ⟨fun hn => ?_, fun hn => ?_⟩
  · have hn : ¬ Path E to[i] a := fun h => by rw [decide_eq_true ((hRm a).2 h)] at hn; cases hn
    simp (disch := first | assumption | omega) only [e1, PX, w64]
    refine ⟨⟨i + 1, out, by omega, rfl, hG3, hp, fun y => ?_, by omega⟩, ?_⟩
    · rw [hout, htk, List.mem_append, List.mem_singleton]
      exact ⟨fun ⟨h1, h2⟩ => ⟨.inl h1, h2⟩, fun ⟨h1, h2⟩ => ⟨h1.elim id fun h => absurd (h ▸ h2) hn, h2⟩⟩
    · simp only [List.getD_cons_succ, List.getD_cons_zero, intOf]; omega
  have hy : Path E to[i] a := (hRm a).1 (by simpa using hn)
  obtain ⟨A2, c2, hA2⟩ := hG3.len
  have hlen2 : ∀ {w K}, (std Tryz.prog).step (sBuiltin .len #[44] 3 [false] [vs.getD 0 undef]) w K = K (.int .i64 (out.length : Nat)) w := by rw [hA2]; intro w K; simp (disch := first | assumption | omega) only [PX]
  have k3 := hc8 w4 hG3.U
  rw [hlen2, hidx]
  simp (disch := first | assumption | omega) only [PX, LX]
  refine hG3.push kind_int (by omega) to[i] ?_
  intro v35 w5 hG5
  have hnx : to[i] ∉ out := fun h => by
    have := ((hout _).1 h).1
    obtain ⟨j, hj, he⟩ := List.mem_iff_getElem.1 this
    rw [List.getElem_take] at he
    have hjl : j < i := by simpa using Nat.lt_of_lt_of_le hj (List.length_take_le i to)
    have := (List.getElem_inj (h₀ := by omega) (h₁ := hi') hnd).1 he
    omega
  refine ins_loop hto hi' hG5 hp hnx (by omega) fun w6 l' hG6 hp6 hm6 hl6 => ?_
  simp (disch := first | assumption | omega) only [e1, PX, w64]
  refine ⟨⟨i + 1, l', by omega, rfl, hG6, hp6, fun y => ?_, by omega⟩, ?_⟩
  · rw [hm6, hout, htk, List.mem_append, List.mem_singleton]
    constructor
    · rintro (rfl | ⟨h1, h2⟩)
      · exact ⟨.inr rfl, hy⟩
      · exact ⟨.inl h1, h2⟩
    · rintro ⟨h1 | rfl, h2⟩
      · exact .inr ⟨h1, h2⟩
      · exact .inl rfl
  · simp only [List.getD_cons_succ, List.getD_cons_zero, intOf]; omega
end
end Go.Proofs.YtakifgecgmdjcaaGreat

/- The document's locks: Victim, Txns. -/
namespace Go.Proofs.YtakifgecgmdjcaaGreat
open Go Xf Go.RowKit
set_option linter.unusedVariables false
set_option linter.unusedSimpArgs false
set_option maxRecDepth 100000

section
variable {W w w' : World} {F : List (Nat × Obj)} {D : Rt} {v : Value}
theorem rVictim_spec (h : RdT w v D) (hlh : D.has.length ≤ 500) (hlw : D.waits.length ≤ 500) (x : Int) : CallsR Tryz.prog 30 #[v, .int .i64 x] w fun u w' => ∃ E L, (∀ e, e ∈ E ↔ edgeD D e) ∧ RingL E x L ∧ u = .int .i64 (L.getLast?.getD 0) ∧ Upd w w' [] := by
  apply flotillaref13_Victim_sound
  unfold flotillaref13_Victim_x
  have hT := h
  obtain ⟨vh, vw, rfl, hh, hw⟩ := h
  refine st_box (Upd.refl w []) (Owns.nil w) ?_
  intro b w1 hU1 hO1 hb
  have hO1 : Owns w1 [tabBx b vh vw] := hO1
  rw [step_run (run_sLoad (tab_cells (hO1.at_ 0 rfl)).2.2)]
  refine st_call (rEdges_spec (hT.mono hU1) hlh hlw) ?_
  rintro v7 w2 ⟨E, hE, hU2⟩
  have hEl := hE.len
  refine st_call (rRing_spec hE.rd (by omega) x) ?_
  rintro v9 w3 ⟨L, hL, hU3, hR, hLl⟩
  have hU := (hU1.trans hU2).trans hU3
  obtain ⟨A, c, rfl, hll⟩ := rdS_len hL
  have hlb : L.length ≤ 500000 := by omega
  simp (disch := first | assumption | omega) only [PX, BX]
  refine ⟨fun h0 => ?_, fun h0 => ?_⟩
  · have : L = [] := List.eq_nil_of_length_eq_zero (by omega)
    subst this
    exact ⟨E, [], hE.mem, hR, rfl, hU⟩
  · have hpos : 0 < L.length := by omega
    have hlt' : L.length - 1 < L.length := by omega
    obtain ⟨a, c', q, hc⟩ := in_at hL hlt'
    injection q with q; subst q
    have k0 := hc w3 (Upd.refl _ _)
    have e : ((L.length : Nat) : Int) - 1 = ((L.length - 1 : Nat) : Int) := by omega
    simp (disch := first | assumption | omega) only [PX, LX, w64, e, Nat.mul_one]
    have hne : L ≠ [] := fun h => by rw [h] at hpos; exact absurd hpos (by decide)
    refine ⟨E, L, hE.mem, hR, ?_, hU⟩
    rw [List.getLast?_eq_some_getLast hne, List.getLast_eq_getElem hne]; rfl
def TxnsQ (W : World) (S : Int → Prop) (n : Nat) (u : Value) (w' : World) : Prop := ∃ L, RdS w' inV 1 u L ∧ Upd W w' [] ∧ L.Pairwise (· < ·) ∧ (∀ y, y ∈ L ↔ S y) ∧ L.length ≤ n
/-- each once, rising -/
theorem rTxns_k2 {u3 : Value} {all : List Int} (hU : Upd W w []) (hr : RdS w inV 1 u3 all) (hl : all.length ≤ 100000) : flotillaref13_Txns_k2 (std Tryz.prog) u3 w (TxnsQ W (fun y => y ∈ all) all.length) := by
  unfold flotillaref13_Txns_k2 flotillaref13_Txns_k3
  obtain ⟨A, c, hu3, hll⟩ := rdS_len hr
  refine st_loop (fun vs w' => ∃ (i : Nat) (out : List Int), i ≤ all.length ∧ vs.getD 1 undef = .int .i64 i ∧ OutG 3 1 inV w [] out (vs.getD 0 undef) w' ∧ out.Pairwise (· < ·) ∧ (∀ y, y ∈ out ↔ y ∈ all.take i) ∧ out.length ≤ i) (fun vs _ => all.length - (intOf (vs.getD 1 undef)).toNat) ⟨0, [], Nat.zero_le _, rfl, OutG.nil_ (Upd.refl w []) (Owns.nil w), List.Pairwise.nil, fun y => by simp, Nat.le_refl _⟩ ?_
  rintro dv vs w2 - ⟨i, out, hi, e1, hG, hp, hout, hol⟩
  have hlenv : ∀ {w K}, (std Tryz.prog).step (sBuiltin .len #[44] 3 [false] [u3]) w K = K (.int .i64 (all.length : Nat)) w := by rw [hu3]; intro w K; simp (disch := first | assumption | omega) only [PX]
  rw [hlenv, e1]
  simp (disch := first | assumption | omega) only [PX, BX]
  refine ⟨fun hlt => ?_, fun hge => ?_⟩
  rotate_left
  · obtain rfl : i = all.length := by omega
    rw [List.take_length] at hout
    exact ⟨out, hG.rd (by omega), hU.trans hG.U, hp, hout, hol⟩
  have hi' : i < all.length := by omega
  obtain ⟨a8, c8, q8, hc8⟩ := in_at hr hi'
  have hidx : ∀ {w K}, (std Tryz.prog).step (sIndexAddr 44 u3 (.int .i64 (i : Nat))) w K = K (.pointer (some (a8.add i))) w := by rw [q8]; intro w K; exact px_ix44 hi'
  have htk : all.take (i + 1) = all.take i ++ [all[i]] := List.take_succ_eq_append_getElem hi'
  have k0 := hc8 w2 hG.U
  rw [hidx]
  simp (disch := first | assumption | omega) only [PX, LX]
  refine st_call (Has_spec (hG.rd (by omega)).ints (by omega) all[i]) ?_
  rintro _ w4 ⟨rfl, rfl⟩
  unfold flotillaref13_Txns_k4
  rw [bool_dec]
  refine ⟨fun hin => ?_, fun hnx => ?_⟩
  · simp (disch := first | assumption | omega) only [e1, PX, w64]
    refine ⟨⟨i + 1, out, by omega, rfl, hG, hp, fun y => ?_, by omega⟩, ?_⟩
    · rw [hout, htk, List.mem_append, List.mem_singleton]
      exact ⟨.inl, fun h => h.elim id fun h => by rw [h]; exact (hout _).1 hin⟩
    · simp only [List.getD_cons_succ, List.getD_cons_zero, intOf]; omega
  obtain ⟨A2, c2, hA2⟩ := hG.len
  have hlen2 : ∀ {w K}, (std Tryz.prog).step (sBuiltin .len #[44] 3 [false] [vs.getD 0 undef]) w K = K (.int .i64 (out.length : Nat)) w := by rw [hA2]; intro w K; simp (disch := first | assumption | omega) only [PX]
  have k3 := hc8 w4 hG.U
  rw [hlen2, hidx]
  simp (disch := first | assumption | omega) only [PX, LX]
  refine hG.push kind_int (by omega) all[i] ?_
  intro v35 w5 hG5
  refine ins_loop hr hi' hG5 hp hnx (by omega) fun w6 l' hG6 hp6 hm6 hl6 => ?_
  simp (disch := first | assumption | omega) only [e1, PX, w64]
  refine ⟨⟨i + 1, l', by omega, rfl, hG6, hp6, fun y => ?_, by omega⟩, ?_⟩
  · rw [hm6, hout, htk, List.mem_append, List.mem_singleton]; exact or_comm
  · simp only [List.getD_cons_succ, List.getD_cons_zero, intOf]; omega
theorem rTxns_k1 {b : Nat} {vh vw u3 : Value} {all0 : List Int} (hw : RdS W rwV 4 vw D.waits) (hlw : D.waits.length ≤ 500) (h0 : all0.length ≤ 500) (hG : OutG 3 1 inV W [tabBx b vh vw] all0 u3 w) : flotillaref13_Txns_k1 (std Tryz.prog) (.pointer (some ⟨b, 0, none⟩)) u3 w (TxnsQ W (fun y => y ∈ all0 ++ D.waits.map (·.txn)) (all0.length + D.waits.length)) := by
  unfold flotillaref13_Txns_k1
  obtain ⟨A, c, rfl, hll⟩ := rdS_len hw
  refine st_loop (fun vs w' => ∃ i : Nat, i ≤ D.waits.length ∧ vs.getD 1 undef = .int .i64 i ∧ OutG 3 1 inV W [tabBx b vh (.slice A D.waits.length c)] (all0 ++ (D.waits.take i).map (·.txn)) (vs.getD 0 undef) w') (fun vs _ => D.waits.length - (intOf (vs.getD 1 undef)).toNat) ⟨0, Nat.zero_le _, rfl, by simpa using hG⟩ ?_
  rintro dv vs w2 - ⟨i, hi, e1, hG⟩
  obtain ⟨-, c0, -⟩ := tab_cells (hG.owns.at_ 0 rfl)
  simp (disch := first | assumption | omega) only [e1, PX, BX, LX, add_mk, Nat.reduceAdd]
  refine ⟨fun hlt => ?_, fun hge => ?_⟩
  rotate_left
  · obtain rfl : i = D.waits.length := by omega
    rw [List.take_length] at hG
    have := rTxns_k2 hG.U (hG.rd (by simp; omega)) (by simp; omega)
    rw [show (all0 ++ D.waits.map (·.txn)).length = all0.length + D.waits.length by simp] at this
    exact this
  have hi' : i < D.waits.length := by omega
  obtain ⟨a, c', q1, hc⟩ := rw_at hw hi'
  injection q1 with q1; subst q1
  obtain ⟨k0, -⟩ := hc w2 hG.U
  simp (disch := first | assumption | omega) only [PX, BX, LX, add_mk, add_add', Nat.reduceAdd]
  refine hG.push kind_int (by simp; omega) _ ?_
  intro v' w3 hG3
  simp (disch := omega) only [e1, PX, w64]
  refine ⟨⟨i + 1, by omega, rfl, ?_⟩, ?_⟩
  · rw [List.take_succ_eq_append_getElem hi', List.map_append, ← List.append_assoc]; exact hG3
  · simp only [List.getD_cons_succ, List.getD_cons_zero, intOf]; omega
theorem rTxns_spec (h : RdT w v D) (hlh : D.has.length ≤ 500) (hlw : D.waits.length ≤ 500) : CallsR Tryz.prog 32 #[v] w (TxnsQ w (fun y => y ∈ D.has.map (·.txn) ++ D.waits.map (·.txn)) (D.has.length + D.waits.length)) := by
  apply flotillaref13_Txns_sound
  unfold flotillaref13_Txns_x
  obtain ⟨vh, vw, rfl, hh, hw⟩ := h
  obtain ⟨A, c, rfl, hll⟩ := rdS_len hh
  refine st_box (Upd.refl w []) (Owns.nil w) ?_
  intro b w1 hU1 hO1 hb
  have hO1 : Owns w1 [tabBx b (.slice A D.has.length c) vw] := hO1
  refine st_loop (fun vs w' => ∃ i : Nat, i ≤ D.has.length ∧ vs.getD 1 undef = .int .i64 i ∧ OutG 3 1 inV w [tabBx b (.slice A D.has.length c) vw] ((D.has.take i).map (·.txn)) (vs.getD 0 undef) w') (fun vs _ => D.has.length - (intOf (vs.getD 1 undef)).toNat) ⟨0, Nat.zero_le _, rfl, by simpa using OutG.nil_ hU1 hO1⟩ ?_
  rintro dv vs w2 - ⟨i, hi, e1, hG⟩
  obtain ⟨c0, -, -⟩ := tab_cells (hG.owns.at_ 0 rfl)
  simp (disch := first | assumption | omega) only [e1, PX, BX, LX, add_mk, Nat.reduceAdd]
  refine ⟨fun hlt => ?_, fun hge => ?_⟩
  rotate_left
  · obtain rfl : i = D.has.length := by omega
    rw [List.take_length] at hG
    have := rTxns_k1 hw hlw (by simpa using hlh) hG
    rw [List.length_map] at this
    exact this
  have hi' : i < D.has.length := by omega
  obtain ⟨a, c', q1, hc⟩ := rw_at hh hi'
  injection q1 with q1; subst q1
  obtain ⟨k0, -⟩ := hc w2 hG.U
  simp (disch := first | assumption | omega) only [PX, BX, LX, add_mk, add_add', Nat.reduceAdd]
  refine hG.push kind_int (by simp; omega) _ ?_
  intro v' w3 hG3
  simp (disch := omega) only [e1, PX, w64]
  refine ⟨⟨i + 1, by omega, rfl, ?_⟩, ?_⟩
  · rw [List.take_succ_eq_append_getElem hi', List.map_append]; exact hG3
  · simp only [List.getD_cons_succ, List.getD_cons_zero, intOf]; omega
end
end Go.Proofs.YtakifgecgmdjcaaGreat

/- The document's locks: Held. -/
namespace Go.Proofs.YtakifgecgmdjcaaGreat
open Go Xf Go.RowKit
set_option linter.unusedVariables false
set_option linter.unusedSimpArgs false
set_option maxRecDepth 100000

theorem r_sgtr {P : Program} {w : World} {t : TypeId} {x y : Operand} {a b : List UInt8} : (sBin .gtr t x y (strV a) (strV b)).run P w = .ok (.value (.bool (decide (b < a)))) w := by
  have h : (!(decide (a < b) || decide (a = b))) = decide (b < a) := by
    by_cases h1 : a < b
    · have : ¬ b < a := fun h2 => List.lt_irrefl a (List.lt_trans h1 h2)
      simp [h1, this]
    · by_cases h2 : a = b
      · subst h2; simp [h1]
      · have : b < a := Classical.byContradiction fun h3 => h2 (List.le_antisymm h3 h1)
        simp [h1, h2, this]
  rw [← h]
  simp only [sBin, run_sV, eqGuard, binOp, Op.stringOp, toList_inj, toList_mk, bytesLess_eq]
  have e : (a == b) = decide (a = b) := by by_cases h : a = b <;> simp [h]
  rw [e]
  rfl
section
variable {W w w' : World} {F : List (Nat × Obj)} {K : Value → World → Prop} {D : Rt} {v : Value}
theorem OutG.setH {l : List He} {v : Value} (h : OutG 104 2 heV W F l v w) {a : Addr} {n c : Nat} (hv : v = .slice (some a) n c) {j : Nat} (hj : j < l.length) (y : He)
    (hK : ∀ w', OutG 104 2 heV W F (l.set j y) v w' → K undef w') : (std Tryz.prog).step (sStore 104 (.pointer (some (a.add (j * 2)))) (.agg (heV y).toArray)) w K := by
  obtain ⟨hr, hrow, hO, hU, hm⟩ := h
  rcases hrow.2 with ⟨h1, h2, _⟩ | ⟨g, cap, cs, h1, rfl, hcap, hmax, hsz, htk⟩
  · rw [hv] at h1; cases h1
  · rw [hv] at h1
    injection h1 with q1 q2 q3
    injection q1 with q1
    subst q1
    rw [add_mk, Nat.zero_add]
    refine st_storeN (vs := heV y) (by rw [sz104]; rfl) hU hO 0 rfl (by show j * 2 + 2 ≤ cs.size; omega) (kind_he.one y) (hm _ (List.mem_singleton.2 rfl)) ?_
    intro w' hU' hO'
    have hl2 : (l.set j y).length = l.length := List.length_set
    have hfl : ∀ l : List He, (l.flatMap heV).length = l.length * 2 := fun l => flat_len heV 2 heV_len l
    refine hK w' ⟨[(g, .cells (cs.toList.take (j * 2) ++ heV y ++ cs.toList.drop (j * 2 + 2)).toArray 104 (0, 0))], ⟨by rw [hfl], .inr ⟨g, cap, _, by rw [hv, q2, q3, hl2], rfl, by rw [hl2]; exact hcap, hmax, ?_, ?_⟩⟩, hO', hU', fun p hp => ?_⟩
    · simp only [List.size_toArray, List.length_append, List.length_take, List.length_drop, Array.length_toList, heV_len]; omega
    · rw [hl2]
      show (cs.toList.take (j * 2) ++ heV y ++ cs.toList.drop (j * 2 + 2)).take (l.length * 2) = (l.set j y).flatMap heV
      have e1 : (cs.toList.take (j * 2)).length = j * 2 := by rw [List.length_take, Array.length_toList]; omega
      have e2 : (cs.toList.take (j * 2) ++ heV y).length = j * 2 + 2 := by rw [List.length_append, e1, heV_len]
      have t1 : (cs.toList.take (j * 2)).take (l.length * 2) = cs.toList.take (j * 2) := by rw [List.take_take, Nat.min_eq_right (by omega)]
      have t2 : (cs.toList.take (l.length * 2)).take (j * 2) = cs.toList.take (j * 2) := by rw [List.take_take, Nat.min_eq_left (by omega)]
      rw [List.set_eq_take_append_cons_drop, if_pos hj, List.flatMap_append, List.flatMap_cons, flat_take heV_len, flat_drop heV_len, ← htk, t2, List.drop_take, show (j + 1) * 2 = j * 2 + 2 by omega]
      rw [List.take_append, e2, List.take_append, t1, e1, List.take_of_length_le (l := heV y) (by rw [heV_len]; omega), List.append_assoc]
    · rw [List.mem_singleton] at hp; subst hp
      exact hm (g, .cells cs 104 (0, 0)) (List.mem_singleton.2 rfl)
theorem OutG.heAt {l : List He} {v : Value} (h : OutG 104 2 heV W F l v w) (hl : l.length ≤ 1000000000) {a : Addr} {n c : Nat} (hv : v = .slice (some a) n c) {j : Nat} (hj : j < l.length) : ∀ w', Upd w w' [] → w'.cell? (a.add (j * 2 + 0)) = some (strV l[j].1) ∧ (loadVar 104 (a.add (j * 2))).run Tryz.prog w' = .ok (.agg (heV l[j]).toArray) w' := by
  have hr := h.rd hl
  obtain ⟨a1, c1, q1, h1⟩ := he_at hr hj
  obtain ⟨a2, c2, q2, h2⟩ := he_load hr hj
  rw [hv] at q1 q2
  injection q1 with q1; injection q1 with q1; subst q1
  injection q2 with q2; injection q2 with q2; subst q2
  exact fun w' hU => ⟨(h1 w' hU).1, h2 w' hU⟩
end
end Go.Proofs.YtakifgecgmdjcaaGreat

/- The document's locks: Held, whole. -/
namespace Go.Proofs.YtakifgecgmdjcaaGreat
open Go Xf Go.RowKit
set_option linter.unusedVariables false
set_option linter.unusedSimpArgs false
set_option maxRecDepth 100000

def heLt (a b : He) : Prop := a.1 < b.1
theorem heLt_trans (a b c : He) (h1 : heLt a b) (h2 : heLt b c) : heLt a c := List.lt_trans h1 h2
section
variable {W w w' : World} {F : List (Nat × Obj)} {K : Value → World → Prop} {D : Rt} {v : Value}
/-- the loop that moves what one has to its place -/
theorem insH_loop {b i : Nat} {A : Option Addr} {c0 : Nat} {vw v40 : Value} {l : List He} {vs : List Value} {again : List Value → World → Prop} {Q : Value → World → Prop} (hh : RdS W rwV 4 (.slice A D.has.length c0) D.has) (hi : i < D.has.length) (e1 : vs.getD 1 undef = .int .i64 (i : Nat)) (hlh : D.has.length ≤ 500) {x : He} (hx : x.1 = D.has[i].name)
    (hG : OutG 104 2 heV W [tabBx b (.slice A D.has.length c0) vw] (l ++ [x]) v40 w) (hp : l.Pairwise heLt) (hnx : ∀ y ∈ l, y.1 ≠ x.1) (hl : l.length ≤ 1000)
    (hR : ∀ w' l', OutG 104 2 heV W [tabBx b (.slice A D.has.length c0) vw] l' v40 w' → l'.Pairwise heLt → (∀ y, y ∈ l' ↔ y = x ∨ y ∈ l) → l'.length = l.length + 1 → again [v40, .int .i64 ((i + 1 : Nat) : Int)] w') :
  (std Tryz.prog).loop [.int .i64 (l.length : Nat)] w fun dv_2 vs_2 w again_2 =>
  (std Tryz.prog).draw w fun S_5 w =>
  (std Tryz.prog).stepS S_5 (sBin .gtr 3 (.tmp 41) (.const (.int .i64 0)) (vs_2.getD 0 undef) (.int .i64 0)) fun v42_1 =>
  (std Tryz.prog).bool v42_1
  ((std Tryz.prog).stepS (fun _ => True) (sBin .sub 3 (.tmp 45) (.const (.int .i64 1)) (vs_2.getD 0 undef) (.int .i64 1)) fun v46_1 =>
  (std Tryz.prog).stepS S_5 (sIndexAddr 59 v40 v46_1) fun v47_1 =>
  (std Tryz.prog).stepS S_5 (sFieldAddr 104 v47_1 0) fun v48_1 =>
  (std Tryz.prog).stepS S_5 (sLoad 9 v48_1) fun v49_1 =>
  (std Tryz.prog).stepS S_5 (sFieldAddr 27 (.pointer (some ⟨b, 0, none⟩)) 0) fun v50_1 =>
  (std Tryz.prog).stepS S_5 (sLoad 25 v50_1) fun v51_1 =>
  (std Tryz.prog).stepS S_5 (sIndexAddr 25 v51_1 (.int .i64 (i : Nat))) fun v53_1 =>
  (std Tryz.prog).stepS S_5 (sFieldAddr 85 v53_1 1) fun v54_1 =>
  (std Tryz.prog).stepS S_5 (sLoad 9 v54_1) fun v55_1 =>
  (std Tryz.prog).stepS S_5 (sBin .gtr 9 (.tmp 49) (.tmp 55) v49_1 v55_1) fun v56_1 =>
  (std Tryz.prog).bool v56_1
  ((std Tryz.prog).draw w fun S_6 w =>
  (std Tryz.prog).stepS (fun _ => True) (sBin .sub 3 (.tmp 61) (.const (.int .i64 1)) (vs_2.getD 0 undef) (.int .i64 1)) fun v62_1 =>
  (std Tryz.prog).stepS (fun _ => True) (sBin .sub 3 (.tmp 64) (.const (.int .i64 1)) (vs_2.getD 0 undef) (.int .i64 1)) fun v65_1 =>
  (std Tryz.prog).stepS S_6 (sIndexAddr 59 v40 v65_1) fun v66_1 =>
  (std Tryz.prog).stepS S_6 (sLoad 104 v66_1) fun v67_1 =>
  (std Tryz.prog).stepS S_6 (sIndexAddr 59 v40 (vs_2.getD 0 undef)) fun v70_1 =>
  (std Tryz.prog).stepS S_6 (sLoad 104 v70_1) fun v71_1 =>
  (std Tryz.prog).stepS S_6 (sIndexAddr 59 v40 (vs_2.getD 0 undef)) fun v72_1 =>
  (std Tryz.prog).step (sStore 104 v72_1 v67_1) w fun vx_1 w =>
  (std Tryz.prog).keepT w fun S_7 =>
  (std Tryz.prog).stepS S_7 (sIndexAddr 59 v40 v62_1) fun v73_1 =>
  (std Tryz.prog).step (sStore 104 v73_1 v71_1) w fun vx_2 w =>
  (std Tryz.prog).keepT w fun S_8 =>
  (std Tryz.prog).step (sBin .sub 3 (.tmp 74) (.const (.int .i64 1)) (vs_2.getD 0 undef) (.int .i64 1)) w fun v75_1 w =>
  again_2 [v75_1] w)
  (flotillaref13_Held_k2 (std Tryz.prog) vs again v40 w Q))
  (flotillaref13_Held_k2 (std Tryz.prog) vs again v40 w Q) := by
  obtain ⟨A0, c, hv⟩ := hG.len
  have hlen1 : (l ++ [x]).length = l.length + 1 := by simp
  obtain ⟨a, rfl⟩ : ∃ a, A0 = some a := by
    obtain ⟨hr, hrow, -⟩ := hG
    rcases hrow.2 with ⟨h1, h2, _⟩ | ⟨g, cap, cs, h1, -⟩
    · rw [hlen1] at h2; omega
    · rw [hv] at h1; injection h1 with q1; exact ⟨_, q1⟩
  rw [hlen1] at hv
  have hneT : ∃ w', (fun _ : World => True) w' := ⟨w, trivial⟩
  refine st_loop (fun vs w' => ∃ k : Nat, k ≤ l.length ∧ vs.getD 0 undef = .int .i64 k ∧ OutG 104 2 heV W [tabBx b (.slice A D.has.length c0) vw] (insAt l k x) v40 w' ∧ ∀ y ∈ l.drop k, heLt x y) (fun vs _ => (intOf (vs.getD 0 undef)).toNat) ⟨l.length, Nat.le_refl _, rfl, by unfold insAt; rw [List.take_length, List.drop_length, List.append_nil]; exact hG, by rw [List.drop_length]; intro y hy; cases hy⟩ ?_
  rintro dv vs2 w1 - ⟨k, hk, e0, hG1, hgt⟩
  have hil : (insAt l k x).length = l.length + 1 := insAt_len x
  have hGd := hG1.upd (Upd.drew w1 [])
  have hne : ∃ w', (fun w' => Upd w1.drew w' []) w' := ⟨_, Upd.refl _ _⟩
  refine st_draw (fun w' => Upd w1.drew w' []) (Upd.refl _ _) ?_
  rw [e0, hv]
  have e2 : 0 < k → ((k : Nat) : Int) - 1 = ((k - 1 : Nat) : Int) := fun h => by omega
  simp (disch := first | exact hne | exact hneT | assumption | omega) only [SX]
  rw [bool_dec]
  have fin : (∀ y ∈ l.take k, heLt y x) → flotillaref13_Held_k2 (std Tryz.prog) vs again (.slice (some a) (l.length + 1) c) w1.drew Q := fun h1 => by
    unfold flotillaref13_Held_k2
    simp (disch := first | assumption | omega) only [e1, PX, w64]
    rw [← hv]
    exact hR w1.drew (insAt l k x) hGd (insAt_pw (R := heLt) heLt_trans hp h1 fun hk' => hgt _ (by rw [List.drop_eq_getElem_cons hk']; exact List.mem_cons_self ..)) (fun y => mem_insAt) hil
  refine ⟨fun hpos => ?_, fun hz => ?_⟩
  rotate_left
  · obtain rfl : k = 0 := by omega
    exact fin (by simp)
  have hpos : 0 < k := by omega
  have hk1 : k - 1 < l.length := by omega
  have hat : (insAt l k x)[k - 1]'(by omega) = l[k - 1] := by
    unfold insAt
    rw [List.getElem_append_left (by simp; omega), List.getElem_append_left (by simp; omega), List.getElem_take]
  have hatk : (insAt l k x)[k]'(by omega) = x := by
    unfold insAt
    have ht : (l.take k).length = k := by rw [List.length_take]; omega
    rw [List.getElem_append_left (by simp; omega), List.getElem_append_right (by omega)]
    simp
  obtain ⟨a2, c2, hs2, hc2⟩ := rw_at hh hi
  injection hs2 with hs2; subst hs2
  have g0 : ∀ w', Upd w1.drew w' [] → w'.cell? (a.add ((k - 1) * 2 + 0)) = some (strV l[k - 1].1) := fun w' h => by rw [← hat]; exact (hGd.heAt (by omega) hv (by omega) w' h).1
  have g1 : ∀ w', Upd w1.drew w' [] → w'.cell? (a2.add (i * 4 + 1)) = some (strV x.1) := fun w' h => by rw [hx]; exact (hc2 w' (hGd.U.trans h)).2.1
  have g2 : ∀ w', Upd w1.drew w' [] → w'.cell? ⟨b, 0, none⟩ = some (.slice (some a2) D.has.length c0) := fun w' h => (tab_cells ((hGd.owns.ext h).at_ 0 rfl)).1
  simp (disch := first | exact hne | exact hneT | assumption | omega) only [SX, SLX, w64, e2 hpos, add_add', add_mk, Nat.reduceAdd]
  rw [stepS_run hne fun w' _ => r_sgtr, bool_dec]
  refine ⟨fun hgt2 => ?_, fun hle => ?_⟩
  rotate_left
  · refine fin fun y hy => ?_
    have hlx : heLt l[k - 1] x := Classical.byContradiction fun h => hnx _ (List.getElem_mem hk1) (List.le_antisymm hle h)
    obtain ⟨j, hj, rfl⟩ := List.mem_iff_getElem.1 hy
    rw [List.getElem_take]
    have hj' : j < k := by simpa using Nat.lt_of_lt_of_le hj (List.length_take_le k l)
    rcases Nat.lt_or_ge j (k - 1) with h | h
    · exact heLt_trans _ _ _ (List.pairwise_iff_getElem.1 hp j (k - 1) (by omega) hk1 h) hlx
    · have : j = k - 1 := by omega
      subst this; exact hlx
  have hGdd := hGd.upd (Upd.drew w1.drew [])
  have hne2 : ∃ w', (fun w' => Upd w1.drew.drew w' []) w' := ⟨_, Upd.refl _ _⟩
  refine st_draw (fun w' => Upd w1.drew.drew w' []) (Upd.refl _ _) ?_
  have k0 : ∀ w', Upd w1.drew.drew w' [] → (loadVar 104 (a.add ((k - 1) * 2))).run Tryz.prog w' = .ok (.agg (heV l[k - 1]).toArray) w' := fun w' h => by rw [← hat]; exact (hGdd.heAt (by omega) hv (by omega) w' h).2
  have k1 : ∀ w', Upd w1.drew.drew w' [] → (loadVar 104 (a.add (k * 2))).run Tryz.prog w' = .ok (.agg (heV x).toArray) w' := fun w' h => by
    have := (hGdd.heAt (by omega) hv (j := k) (by omega) w' h).2
    rw [hatk] at this; exact this
  simp (disch := first | exact hne2 | exact hneT | assumption | omega) only [SX, SLX, w64, e2 hpos]
  rw [stepS_run hne2 fun w' hs => run_sLoad (k0 w' hs), stepS_run hne2 fun w' hs => run_sLoad (k1 w' hs)]
  refine hGdd.setH hv (j := k) (by omega) l[k - 1] ?_
  intro w3 hG3
  refine st_keepT (fun _ => True) trivial ?_
  simp (disch := first | exact hneT | assumption | omega) only [SX]
  refine hG3.setH hv (j := k - 1) (by rw [List.length_set]; omega) x ?_
  intro w4 hG4
  refine st_keepT (fun _ => True) trivial ?_
  rw [insAt_swap x hpos hk] at hG4
  simp (disch := first | assumption | omega) only [PX, w64, e2 hpos]
  refine ⟨⟨k - 1, by omega, rfl, by rw [← hv]; exact hG4, fun y hy => ?_⟩, ?_⟩
  · rw [List.drop_eq_getElem_cons hk1, show k - 1 + 1 = k by omega] at hy
    rcases List.mem_cons.1 hy with rfl | hy
    · exact hgt2
    · exact hgt y hy
  · simp only [List.getD_cons_zero, intOf]; omega
def HeldQ (W : World) (D : Rt) (x : Int) (u : Value) (w' : World) : Prop := ∃ L, RdS w' heV 2 u L ∧ Upd W w' [] ∧ L.Pairwise heLt ∧ (∀ p : He, p ∈ L ↔ ∃ r ∈ D.has, r.txn = x ∧ (r.name, r.mode) = p) ∧ L.length ≤ D.has.length
theorem rHeld_spec (h : RdT w v D) (hlh : D.has.length ≤ 500) (hnd : (D.has.map fun r => (r.txn, r.name)).Nodup) (x : Int) : CallsR Tryz.prog 31 #[v, .int .i64 x] w (HeldQ w D x) := by
  apply flotillaref13_Held_sound
  unfold flotillaref13_Held_x flotillaref13_Held_k1
  obtain ⟨vh, vw, rfl, hh, hw⟩ := h
  obtain ⟨A, c, rfl, hll⟩ := rdS_len hh
  refine st_box (Upd.refl w []) (Owns.nil w) ?_
  intro b w1 hU1 hO1 hb
  have hO1 : Owns w1 [tabBx b (.slice A D.has.length c) vw] := hO1
  refine st_loop (fun vs w' => ∃ (i : Nat) (out : List He), i ≤ D.has.length ∧ vs.getD 1 undef = .int .i64 i ∧ OutG 104 2 heV w [tabBx b (.slice A D.has.length c) vw] out (vs.getD 0 undef) w' ∧ out.Pairwise heLt ∧ (∀ p : He, p ∈ out ↔ ∃ r ∈ D.has.take i, r.txn = x ∧ (r.name, r.mode) = p) ∧ out.length ≤ i) (fun vs _ => D.has.length - (intOf (vs.getD 1 undef)).toNat) ⟨0, [], Nat.zero_le _, rfl, OutG.nil_ hU1 hO1, List.Pairwise.nil, fun p => by simp, Nat.le_refl _⟩ ?_
  rintro dv vs w2 - ⟨i, out, hi, e1, hG, hp, hout, hol⟩
  obtain ⟨c0, -, -⟩ := tab_cells (hG.owns.at_ 0 rfl)
  simp (disch := first | assumption | omega) only [e1, PX, BX, LX, add_mk, Nat.reduceAdd]
  refine ⟨fun hlt => ?_, fun hge => ?_⟩
  rotate_left
  · obtain rfl : i = D.has.length := by omega
    rw [List.take_length] at hout
    exact ⟨out, hG.rd (by omega), hG.U, hp, hout, hol⟩
  have hi' : i < D.has.length := by omega
  obtain ⟨a, c', q1, hc⟩ := rw_at hh hi'
  injection q1 with q1; subst q1
  obtain ⟨k0, -⟩ := hc w2 hG.U
  have htk : D.has.take (i + 1) = D.has.take i ++ [D.has[i]] := List.take_succ_eq_append_getElem hi'
  simp (disch := first | assumption | omega) only [PX, BX, LX, add_mk, add_add', Nat.reduceAdd]
  refine ⟨fun hx => ?_, fun hx => ?_⟩
  · unfold flotillaref13_Held_k2
    simp (disch := omega) only [e1, PX, w64]
    refine ⟨⟨i + 1, out, by omega, rfl, hG, hp, fun p => ?_, by omega⟩, ?_⟩
    · rw [hout, htk]
      constructor
      · rintro ⟨r, hr, h⟩; exact ⟨r, List.mem_append_left _ hr, h⟩
      · rintro ⟨r, hr, h⟩
        rcases List.mem_append.1 hr with hr | hr
        · exact ⟨r, hr, h⟩
        · rw [List.mem_singleton] at hr; subst hr; exact absurd h.1 hx
    · simp only [List.getD_cons_succ, List.getD_cons_zero, intOf]; omega
  have hx : D.has[i].txn = x := Classical.not_not.1 hx
  obtain ⟨A2, c2, hA2⟩ := hG.len
  have hlen2 : ∀ {w K}, (std Tryz.prog).step (sBuiltin .len #[59] 3 [false] [vs.getD 0 undef]) w K = K (.int .i64 (out.length : Nat)) w := by rw [hA2]; intro w K; simp (disch := first | assumption | omega) only [PX]
  rw [hlen2]
  have hGd := hG.upd (Upd.drew w2 [])
  let S : World → Prop := fun w' => Upd w2.drew w' []
  have hne : ∃ w', S w' := ⟨_, Upd.refl _ _⟩
  refine st_draw S (Upd.refl _ _) ?_
  have g0 : ∀ w', S w' → w'.cell? ⟨b, 0, none⟩ = some (.slice (some a) D.has.length c) := fun w' h => (tab_cells ((hGd.owns.ext h).at_ 0 rfl)).1
  have g1 : ∀ w', S w' → w'.cell? (a.add (i * 4 + 1)) = some (strV D.has[i].name) := fun w' h => (hc w' (hGd.U.trans h)).2.1
  have g2 : ∀ w', S w' → w'.cell? (a.add (i * 4 + 2)) = some (.int .i64 D.has[i].mode) := fun w' h => (hc w' (hGd.U.trans h)).2.2.1
  simp (disch := first | exact hne | assumption | omega) only [SX, SLX, add_mk, add_add', Nat.reduceAdd]
  rw [step_run (build_he _ _ _)]
  refine st_keepT (fun _ => True) trivial ?_
  refine hGd.new kind_he (D.has[i].name, D.has[i].mode) ?_
  intro gr w3 hG3
  refine st_keepT (fun _ => True) trivial ?_
  refine hG3.app1 kind_he (by omega) ?_
  intro v40 w4 hG4
  refine st_keepT (fun _ => True) trivial ?_
  have hnx : ∀ y ∈ out, y.1 ≠ D.has[i].name := fun y hy he => by
    obtain ⟨r, hr, h1, h2⟩ := (hout y).1 hy
    obtain ⟨j, hj, hjr⟩ := List.mem_iff_getElem.1 hr
    rw [List.getElem_take] at hjr
    have hjl : j < i := by simpa using Nat.lt_of_lt_of_le hj (List.length_take_le i D.has)
    have hj2 : j < D.has.length := by omega
    have e : (D.has.map fun r => (r.txn, r.name))[j]'(by simpa using hj2) = (D.has.map fun r => (r.txn, r.name))[i]'(by simpa using hi') := by
      rw [List.getElem_map, List.getElem_map, hjr, h1, hx]
      have : r.name = y.1 := by rw [← h2]
      rw [this, he]
    have := (List.getElem_inj hnd).1 e
    omega
  refine insH_loop hh hi' e1 hlh (x := (D.has[i].name, D.has[i].mode)) rfl hG4 hp hnx (by omega) fun w5 l' hG5 hp5 hm5 hl5 => ?_
  refine ⟨⟨i + 1, l', by omega, rfl, hG5, hp5, fun p => ?_, by omega⟩, ?_⟩
  · rw [hm5, hout, htk]
    constructor
    · rintro (rfl | ⟨r, hr, h⟩)
      · exact ⟨D.has[i], List.mem_append_right _ (List.mem_singleton.2 rfl), hx, rfl⟩
      · exact ⟨r, List.mem_append_left _ hr, h⟩
    · rintro ⟨r, hr, h⟩
      rcases List.mem_append.1 hr with hr | hr
      · exact .inr ⟨r, hr, h⟩
      · rw [List.mem_singleton] at hr; subst hr; exact .inl h.2.symm
  · simp only [List.getD_cons_succ, List.getD_cons_zero, intOf]; omega
end
end Go.Proofs.YtakifgecgmdjcaaGreat

/- The document's locks and the table: the same. -/
namespace Go.Proofs.YtakifgecgmdjcaaGreat
open Go Xf Go.RowKit
set_option linter.unusedVariables false
set_option linter.unusedSimpArgs false
set_option linter.unusedSectionVars false
set_option maxRecDepth 100000

section
variable {κ ν : Type} [DecidableEq κ]
theorem aGet_filter (p : κ → Bool) (k : κ) : ∀ l : List (κ × ν), aGet (l.filter fun q => p q.1) k = if p k then aGet l k else none
  | [] => by simp [aGet_nil]
  | q :: l => by
    rw [List.filter_cons, aGet_cons]
    by_cases hq : p q.1 = true
    · rw [if_pos hq, aGet_cons, aGet_filter p k l]
      by_cases hk : k = q.1
      · rw [if_pos hk, if_pos hk, hk, if_pos hq]
      · rw [if_neg hk, if_neg hk]
    · rw [if_neg hq, aGet_filter p k l]
      by_cases hk : k = q.1
      · rw [hk, if_neg hq, if_neg hq]
      · rw [if_neg hk]
theorem aGet_snoc (k k' : κ) (v : ν) : ∀ l : List (κ × ν), aGet (l ++ [(k, v)]) k' = match aGet l k' with | some u => some u | none => if k' = k then some v else none
  | [] => by rw [List.nil_append, aGet_cons, aGet_nil]
  | q :: l => by
    rw [List.cons_append, aGet_cons, aGet_cons, aGet_snoc k k' v l]
    split <;> rfl
theorem Keys1.filter {l : List (κ × ν)} (h : Keys1 l) (p : κ × ν → Bool) : Keys1 (l.filter p) := List.Nodup.sublist (List.filter_sublist.map _) h
theorem Keys1.snoc {l : List (κ × ν)} (h : Keys1 l) {k : κ} (hk : aGet l k = none) (v : ν) : Keys1 (l ++ [(k, v)]) := by
  unfold Keys1 at *
  rw [List.map_append, List.nodup_append]
  refine ⟨h, by simp, fun x hx y hy he => ?_⟩
  simp at hy
  subst hy
  have := aGet_keys.2 (he ▸ hx)
  rw [hk] at this; cases this
end
def hasL (D : Rt) : List ((Int × List UInt8) × Int) := D.has.map fun r => ((r.txn, r.name), r.mode)
def waitL (D : Rt) : List (Int × Wt) := D.waits.map fun r => (r.txn, wOfR r)
theorem modeD_eq (D : Rt) (x : Int) (s : List UInt8) : (D.has.find? (isR x s)).map (·.mode) = aGet (hasL D) (x, s) := by
  unfold hasL
  induction D.has with
  | nil => rfl
  | cons r l ih =>
    rw [List.map_cons, aGet_cons]
    by_cases h : r.txn = x ∧ r.name = s
    · rw [List.find?_cons_of_pos (by unfold isR; exact decide_eq_true h), if_pos (by rw [h.1, h.2])]; rfl
    · rw [List.find?_cons_of_neg (by unfold isR; rw [decide_eq_false h]; exact Bool.false_ne_true), if_neg (fun e => h (by injection e with e1 e2; exact ⟨e1.symm, e2.symm⟩)), ih]
theorem wOf_eq (D : Rt) (x : Int) : wOf D x = aGet (waitL D) x := by
  unfold wOf waitF waitL
  induction D.waits with
  | nil => rfl
  | cons r l ih =>
    rw [List.map_cons, aGet_cons]
    by_cases h : r.txn = x
    · rw [List.find?_cons_of_pos (p := fun r : Rw => decide (r.txn = x)) (decide_eq_true h), if_pos h.symm]; rfl
    · rw [List.find?_cons_of_neg (p := fun r : Rw => decide (r.txn = x)) (by rw [decide_eq_false h]; exact Bool.false_ne_true), if_neg (Ne.symm h), ih]
structure SimV (H : Int → List UInt8 → Option Int) (Wv : Int → Option Wt) (Tu Ro : List UInt8 → List Int) (D : Rt) : Prop where
  hk : Keys1 (hasL D)
  wk : Keys1 (waitL D)
  has : ∀ x s, aGet (hasL D) (x, s) = H x s
  w : ∀ x, aGet (waitL D) x = Wv x
  tu : ∀ s, (tuD D s).map (·.txn) = Tu s
  ro : ∀ s, (roD D s).map (·.txn) = Ro s
theorem SimV.congr {H H' : Int → List UInt8 → Option Int} {Wv Wv' : Int → Option Wt} {Tu Tu' Ro Ro' : List UInt8 → List Int} {D : Rt} (h : SimV H Wv Tu Ro D) (h1 : ∀ x s, H x s = H' x s) (h2 : ∀ x, Wv x = Wv' x) (h3 : ∀ s, Tu s = Tu' s) (h4 : ∀ s, Ro s = Ro' s) : SimV H' Wv' Tu' Ro' D :=
  ⟨h.hk, h.wk, fun x s => (h.has x s).trans (h1 x s), fun x => (h.w x).trans (h2 x), fun s => (h.tu s).trans (h3 s), fun s => (h.ro s).trans (h4 s)⟩
section
variable {H : Int → List UInt8 → Option Int} {Wv : Int → Option Wt} {Tu Ro : List UInt8 → List Int} {D : Rt}
theorem wait_row (h : Keys1 (waitL D)) {r : Rw} (hr : r ∈ D.waits) : aGet (waitL D) r.txn = some (wOfR r) := aGet_of_mem h (List.mem_map_of_mem (f := fun r : Rw => (r.txn, wOfR r)) hr)
theorem has_row (h : Keys1 (hasL D)) {r : Rw} (hr : r ∈ D.has) : aGet (hasL D) (r.txn, r.name) = some r.mode := aGet_of_mem h (List.mem_map_of_mem (f := fun r : Rw => ((r.txn, r.name), r.mode)) hr)
theorem has_of {x : Int} {s : List UInt8} {m : Int} (h : aGet (hasL D) (x, s) = some m) : ∃ r ∈ D.has, r.txn = x ∧ r.name = s ∧ r.mode = m := by
  obtain ⟨r, hr, he⟩ := List.mem_map.1 (aGet_mem h)
  injection he with e1 e2
  injection e1 with e3 e4
  exact ⟨r, hr, e3, e4, e2⟩
theorem wait_of {x : Int} {w : Wt} (h : aGet (waitL D) x = some w) : ∃ r ∈ D.waits, r.txn = x ∧ wOfR r = w := by
  obtain ⟨r, hr, he⟩ := List.mem_map.1 (aGet_mem h)
  injection he with e1 e2
  exact ⟨r, hr, e1, e2⟩
/-- does it go in? the same -/
theorem SimV.would (h : SimV H Wv Tu Ro D) {n : Nm} {s : List UInt8} (hn : ∀ y, H y s = aGet n.held y) (x m : Int) : wouldD D x s m = wouldN n x m := by
  unfold wouldD wouldN modeD
  rw [modeD_eq, h.has, hn]
theorem SimV.goes (h : SimV H Wv Tu Ro D) {n : Nm} {s : List UInt8} (hn : ∀ y, H y s = aGet n.held y) (hk : Keys1 n.held) (x m : Int) : goesD D x s m = goesB n x (wouldN n x m) := by
  have hw := h.would hn x m
  cases hg : goesB n x (wouldN n x m) with
  | true =>
    refine List.all_eq_true.2 fun r hr => ?_
    unfold offB
    by_cases hc : r.txn ≠ x ∧ r.name = s
    · have h1 := has_row h.hk hr
      rw [hc.2, h.has, hn] at h1
      rw [hw, goesB_mem hg h1 hc.1]
      simp
    · rw [decide_eq_false hc]; rfl
  | false =>
    cases hd : goesD D x s m with
    | false => rfl
    | true =>
      rw [← hg]
      refine (goesB_of hk fun y my hy hyx => ?_).symm
      rw [← hn, ← h.has] at hy
      obtain ⟨r, hr, e1, e2, e3⟩ := has_of hy
      have := List.all_eq_true.1 hd r hr
      unfold offB at this
      rw [decide_eq_true (⟨by rw [e1]; exact hyx, e2⟩ : _ ∧ _), Bool.true_and, Bool.not_not, e3, hw] at this
      exact this
theorem filter_comm' {α : Type} (p q : α → Bool) (l : List α) : (l.filter p).filter q = (l.filter q).filter p := by
  rw [List.filter_filter, List.filter_filter]
  congr 1
  funext x
  exact Bool.and_comm _ _
theorem map_out (l : List Rw) (x : Int) : (l.filter fun r => decide (r.txn ≠ x)).map (·.txn) = outN (l.map (·.txn)) x := by
  unfold outN
  induction l with
  | nil => rfl
  | cons r l ih =>
    rw [List.filter_cons, List.map_cons, List.filter_cons]
    by_cases h : r.txn = x
    · simp only [ne_eq, decide_not] at ih ⊢; simp [h, ih]
    · simp only [ne_eq, decide_not] at ih ⊢; simp [h, ih]
theorem hasL_get (D : Rt) (x : Int) (s : List UInt8) (m : Int) : hasL (getT D x s m) = ((hasL D).filter fun q => decide (q.1 ≠ (x, s))) ++ [((x, s), wouldD D x s m)] := by
  unfold hasL getT
  rw [List.map_append, List.filter_map]
  congr 2
  refine List.filter_congr fun r _ => ?_
  unfold isR
  simp only [Function.comp]
  by_cases h : r.txn = x ∧ r.name = s
  · simp [h]
  · rw [decide_eq_false h, Bool.not_false, decide_eq_true]
    intro e; injection e with e1 e2; exact h ⟨e1, e2⟩
theorem waitL_wait (D : Rt) (x : Int) : (waitingD D x).map (fun r => (r.txn, wOfR r)) = (waitL D).filter fun q => decide (q.1 ≠ x) := by
  unfold waitL waitingD
  rw [List.filter_map]
  rfl
/-- one gets what it would have -/
theorem SimV.give (h : SimV H Wv Tu Ro D) (x : Int) (s : List UInt8) (m : Int) : SimV (fun y s' => if y = x ∧ s' = s then some (wouldD D x s m) else H y s') Wv Tu Ro (getT D x s m) := by
  refine ⟨?_, h.wk, fun y s' => ?_, h.w, h.tu, h.ro⟩
  · rw [hasL_get]
    exact (h.hk.filter _).snoc (by rw [aGet_filter (fun k => decide (k ≠ (x, s)))]; simp) _
  · rw [hasL_get, aGet_snoc, aGet_filter (fun k => decide (k ≠ (x, s)))]
    by_cases he : y = x ∧ s' = s
    · obtain ⟨rfl, rfl⟩ := he
      simp
    · have : (y, s') ≠ (x, s) := fun e => he (by injection e with e1 e2; exact ⟨e1, e2⟩)
      rw [if_neg he, if_pos (decide_eq_true this), h.has]
      cases H y s' with
      | none => simp [this]
      | some u => rfl
/-- one waits no more -/
theorem SimV.unwait (h : SimV H Wv Tu Ro D) (x : Int) : SimV H (fun y => if y = x then none else Wv y) (fun s => outN (Tu s) x) (fun s => outN (Ro s) x) ⟨D.has, waitingD D x⟩ := by
  refine ⟨h.hk, ?_, h.has, fun y => ?_, fun s => ?_, fun s => ?_⟩
  · unfold waitL
    show Keys1 ((waitingD D x).map fun r => (r.txn, wOfR r))
    rw [waitL_wait]; exact h.wk.filter _
  · unfold waitL
    show aGet ((waitingD D x).map fun r => (r.txn, wOfR r)) y = _
    rw [waitL_wait, aGet_filter (fun k => decide (k ≠ x)), h.w]
    by_cases he : y = x
    · simp [he]
    · simp [he]
  · show ((waitingD D x).filter fun r => decide (r.name = s) && r.turn).map (·.txn) = _
    unfold waitingD
    rw [filter_comm', map_out, ← h.tu]; rfl
  · show ((waitingD D x).filter fun r => decide (r.name = s) && !r.turn).map (·.txn) = _
    unfold waitingD
    rw [filter_comm', map_out, ← h.ro]; rfl
theorem SimV.rows (h : SimV H Wv Tu Ro D) (s : List UInt8) : (inD D s).map (·.txn) = Tu s ++ Ro s := by
  unfold inD; rw [List.map_append, h.tu, h.ro]
end
def grOf (r : Rw) : Gr := (r.txn, wOfR r)
end Go.Proofs.YtakifgecgmdjcaaGreat

/- Locks: LockEnds. -/
namespace Go.Proofs.YtakifgecgmdjcaaGreat
open Go Xf Go.RowKit
set_option linter.unusedVariables false
set_option linter.unusedSimpArgs false
set_option maxRecDepth 100000

section
variable {W w w' : World} {F : List (Nat × Obj)} {T : Tb} {g : Nat}
/-- what the loop over all tells -/
structure EndsIn (T : Tb) (L : List Int) (i : Nat) (vic fr : Int) : Prop where
  hvic : vic = 0 ∨ TxK T vic
  hfr : fr = 0 ∨ TxK T fr
  ex : i = 0 ∨ ∃ E : List Ed, ∀ e, e ∈ E ↔ EdgeT T e
  novic : vic = 0 → ∀ x ∈ L.take i, ∀ E : List Ed, (∀ e, e ∈ E ↔ EdgeT T e) → ¬ Path E x x
  nofr : fr = 0 → ∀ x ∈ L.take i, (aGet T.waits x).isSome = true
theorem EndsIn.who {B : Nat} {L : List Int} {vic fr : Int} (h : EndsIn T L L.length vic fr) (hf : Fine T B) (hst : Stuck T) (hL : L ≠ []) (hm : ∀ x, x ∈ L ↔ TxK T x) : ¬ (vic = 0 ∧ fr = 0) := by
  rintro ⟨h1, h2⟩
  have hlen : L.length ≠ 0 := fun h0 => hL (List.eq_nil_of_length_eq_zero h0)
  obtain ⟨E, hE⟩ := h.ex.resolve_left hlen
  have hv := h.novic h1
  have hfr := h.nofr h2
  rw [List.take_length] at hv hfr
  obtain ⟨x, hx, hp⟩ := ring_exists (E := E) hL fun x hx => by
    obtain ⟨w, hw⟩ := Option.isSome_iff_exists.1 (hfr x hx)
    obtain ⟨y, hy, hy2⟩ := wait_edge hf hst hw
    exact ⟨y, (hm y).2 hy2, (hE _).2 hy⟩
  exact hv x hx E hE hp
theorem Ends_k8 {L : List Int} {hL : List (Nat × Obj)} {v27 : Value} {i : Nat} {vic' fr : Int} {vs3 : List Value} {again : List Value → World → Prop} {Q : Value → World → Prop} (hT : TbAt W [] (hL ++ F) T g w) (hrL : RowH 3 1 v27 L.length (intsV .i64 L) hL) (hi : i < L.length) (hL9 : L.length ≤ 1000000) (e2 : vs3.getD 2 undef = .int .i64 (i : Nat)) (e1 : vs3.getD 1 undef = .int .i64 fr)
    (hk : ∀ w' fr', TbAt W [] (hL ++ F) T g w' → ((aGet T.waits L[i]).isSome = true ∧ fr' = fr ∨ fr' = L[i]) → again [.int .i64 vic', .int .i64 fr', .int .i64 ((i + 1 : Nat) : Int)] w') : flotillalaw13_LockEnds_k8 (std Tryz.prog) (.pointer (some ⟨g, 0, none⟩)) v27 vs3 again (.int .i64 vic') w Q := by
  unfold flotillalaw13_LockEnds_k8 flotillalaw13_LockEnds_k7
  obtain ⟨a, c', he1, hc⟩ := int_at (hT.rdI hrL fun p hp => List.mem_append_left _ hp) hi
  subst he1
  simp (disch := first | assumption | omega) only [e2, PX, LX, Nat.mul_one]
  refine st_call (Waits_spec hT L[i]) ?_
  rintro _ w1 ⟨rfl, hT1⟩
  simp (disch := first | assumption | omega) only [PX]
  refine st_talloc ze_want hT1 ?_
  intro b9 w2 hT2 hb9
  generalize (aGet T.waits L[i]).getD ⟨[], 0⟩ = wt
  refine st_tstoreN (vs := [strV wt.name, .int .i64 wt.mode]) (by rw [sz31]; rfl) hT2 rfl (by simp [Value.oneCell']) (.inr hb9) ?_
  intro w3 hT3
  have hT3 := hT3.weak (List.sublist_cons_self ..)
  rw [bool_var]
  refine ⟨fun hno => ?_, fun his => ?_⟩
  · obtain ⟨a', c'', he2, hc2⟩ := int_at (hT3.rdI hrL fun p hp => List.mem_append_left _ hp) hi
    injection he2 with q1 q2 q3
    injection q1 with q1
    subst q1
    simp (disch := first | assumption | omega) only [e1, e2, PX, LX, Nat.mul_one, w64]
    exact hk w3 _ hT3 (.inr rfl)
  · simp (disch := first | assumption | omega) only [e1, e2, PX, w64]
    exact hk w3 _ hT3 (.inl ⟨by simpa using his, rfl⟩)
theorem last_mem {L : List Int} (h : L ≠ []) : L.getLast?.getD 0 ∈ L := by
  rw [List.getLast?_eq_some_getLast h]; exact List.getLast_mem h
theorem LockEnds_spec (W : World) {v0 : Value} {ops : List LOp} (h0 : RdS W opV 4 v0 ops) (hops : ∀ o ∈ ops, okO o) :
    CallsR Tryz.prog 4 #[v0] W fun r w' => r = .bool true ∧ Upd W w' [] := by
  apply flotillalaw13_LockEnds_sound
  unfold flotillalaw13_LockEnds_x
  refine st_call (led_spec h0 (Upd.refl W []) (Owns.nil W)) ?_
  rintro _ w1 ⟨g, T, rfl, hg, hR, hT⟩
  have hopsT : ∀ o ∈ ops.take 60, okO o := fun o ho => hops o (List.mem_of_mem_take ho)
  have hfine : Fine T 60 := (hR.fine hopsT).mono (List.length_take_le ..)
  obtain ⟨hst, M, hM, hMx⟩ := hR.end_ hopsT
  have hM60 : M.length ≤ 60 := Nat.le_trans hM (List.length_take_le ..)
  simp (disch := first | assumption | omega) only [PX, BX]
  refine st_loop (fun vs w' => ∃ (t : Nat) (T : Tb) (M : List Int), vs.getD 4 undef = .int .i64 t ∧ TbAt W [] [] T g w' ∧ Fine T 60 ∧ Stuck T ∧ t + M.length ≤ 60 ∧ ∀ x, TxK T x → x ∈ M) (fun vs _ => 300 - (intOf (vs.getD 4 undef)).toNat) ⟨0, T, M, rfl, hT, hfine, hst, by omega, hMx⟩ ?_
  clear hT hfine hst hM hMx hM60 hR
  clear T M
  rintro dv vs w2 - ⟨t, T, M, et, hT, hfine, hst, htM, hMx⟩
  simp (disch := first | assumption | omega) only [et, PX, BX]
  refine ⟨fun _ => ?_, fun h => absurd (by omega : ((t : Nat) : Int) ≤ 200) h⟩
  refine st_call (Txns_spec hT hfine (by omega)) ?_
  rintro v27 w3 ⟨L, ⟨hL, hrL, hT3, -⟩, hlt, hmem, hLl⟩
  obtain ⟨A, c, hA⟩ := RowH.sl' hrL
  have hlenv : ∀ {w K}, (std Tryz.prog).step (sBuiltin .len #[44] 3 [false] [v27]) w K = K (.int .i64 (L.length : Nat)) w := by rw [hA]; intro w K; simp (disch := first | assumption | omega) only [PX]
  rw [hlenv]
  simp (disch := first | assumption | omega) only [PX, BX]
  refine ⟨fun hz => ?_, fun hnz => ?_⟩
  · have hLn : L = [] := List.eq_nil_of_length_eq_zero (by omega)
    subst hLn
    refine st_call (Edges_spec hT3 hfine (by omega)) ?_
    rintro v w4 ⟨Es, ⟨hl, hr, hT4, -⟩, -, hEs, hEl⟩
    have hEn : Es = [] := by
      cases Es with
      | nil => rfl
      | cons e t =>
        have := edge_txk hfine ((hEs e).1 (List.mem_cons_self ..))
        exact absurd ((hmem _).2 this) (by simp)
    subst hEn
    obtain ⟨A2, c2, rfl⟩ := RowH.sl' hr
    simp (disch := first | assumption | omega) only [PX, BX, List.length_nil]
    refine ⟨fun _ => Turns_lives hT4.1 fun w' h => ⟨rfl, h⟩, fun h => absurd rfl h⟩
  have hLne : L ≠ [] := fun h => hnz (by rw [h]; rfl)
  refine st_loop (fun vs w' => ∃ (i : Nat) (vic fr : Int), i ≤ L.length ∧ vs.getD 2 undef = .int .i64 i ∧ vs.getD 0 undef = .int .i64 vic ∧ vs.getD 1 undef = .int .i64 fr ∧ TbAt W [] (hL ++ []) T g w' ∧ EndsIn T L i vic fr) (fun vs _ => L.length - (intOf (vs.getD 2 undef)).toNat) ⟨0, 0, 0, Nat.zero_le _, rfl, rfl, rfl, hT3, .inl rfl, .inl rfl, .inl rfl, fun _ x hx => by simp at hx, fun _ x hx => by simp at hx⟩ ?_
  rintro dv3 vs3 w4 - ⟨i, vic, fr, hi, e2, e0, e1, hT4, hin⟩
  rw [hlenv]
  simp (disch := first | assumption | omega) only [e2, PX, BX]
  refine ⟨fun hlti => ?_, fun hge => ?_⟩
  · have hi' : i < L.length := by omega
    have htake : L.take (i + 1) = L.take i ++ [L[i]] := List.take_succ_eq_append_getElem hi'
    have htx : TxK T L[i] := (hmem _).1 (List.getElem_mem hi')
    have hin64 := (hfine.txk htx).1
    obtain ⟨a, c', he1, hc⟩ := int_at (hT4.rdI hrL fun p hp => List.mem_append_left _ hp) hi'
    have hidx : ∀ {w K}, (std Tryz.prog).step (sIndexAddr 44 v27 (.int .i64 (i : Nat))) w K = K (.pointer (some (a.add i))) w := by rw [he1]; intro w K; simp (disch := first | assumption | omega) only [PX, Nat.mul_one]
    rw [hidx]
    simp (disch := first | assumption | omega) only [PX, LX]
    refine st_call (Victim_spec hT4 hfine (by omega) L[i]) ?_
    rintro _ w5 ⟨E, L', hE, rfl, ⟨hlt', hR⟩, hT5⟩
    unfold vicV
    simp (disch := first | assumption | omega) only [PX]
    rw [bool_var]
    refine ⟨fun hne => ?_, fun hempty => ?_⟩
    · have hne : L' ≠ [] := fun h => by rw [h] at hne; cases hne
      have hb := last_mem hne
      generalize L'.getLast?.getD 0 = b at hb
      obtain ⟨-, hp⟩ := (hR b).1 hb
      obtain ⟨c2, hc2⟩ := hp.first
      have hbk : TxK T b := edge_txk hfine ((hE _).1 hc2)
      have hb1 := (hfine.txk hbk).1
      refine Ends_k8 hT5 hrL hi' (by omega) e2 e1 fun w' fr' hT' hfr => ?_
      refine ⟨⟨i + 1, b, fr', by omega, rfl, rfl, rfl, hT', .inr hbk, ?_, .inr ⟨E, hE⟩, fun h => by omega, fun h0 x hx => ?_⟩, ?_⟩
      · rcases hfr with ⟨-, rfl⟩ | rfl
        · exact hin.hfr
        · exact .inr htx
      · rcases hfr with ⟨hw, rfl⟩ | rfl
        · rw [htake] at hx
          rcases List.mem_append.1 hx with hx | hx
          · exact hin.nofr h0 x hx
          · rw [List.mem_singleton] at hx; rw [hx]; exact hw
        · omega
      · simp only [List.getD_cons_succ, List.getD_cons_zero, intOf]; omega
    · have hempty : L' = [] := by cases L' with | nil => rfl | cons x t => cases hempty
      subst hempty
      rw [e0]
      refine Ends_k8 hT5 hrL hi' (by omega) e2 e1 fun w' fr' hT' hfr => ?_
      refine ⟨⟨i + 1, vic, fr', by omega, rfl, rfl, rfl, hT', hin.hvic, ?_, .inr ⟨E, hE⟩, fun h0 x hx E' hE' hp => ?_, fun h0 x hx => ?_⟩, ?_⟩
      · rcases hfr with ⟨-, rfl⟩ | rfl
        · exact hin.hfr
        · exact .inr htx
      · rw [htake] at hx
        rcases List.mem_append.1 hx with hx | hx
        · exact hin.novic h0 x hx E' hE' hp
        · rw [List.mem_singleton] at hx
          subst hx
          have hp2 := (Path.congr (fun e => (hE' e).trans (hE e).symm) _ _).1 hp
          have := (hR _).2 ⟨hp2, hp2⟩
          cases this
      · rcases hfr with ⟨hw, rfl⟩ | rfl
        · rw [htake] at hx
          rcases List.mem_append.1 hx with hx | hx
          · exact hin.nofr h0 x hx
          · rw [List.mem_singleton] at hx; rw [hx]; exact hw
        · omega
      · simp only [List.getD_cons_succ, List.getD_cons_zero, intOf]; omega
  · obtain rfl : i = L.length := by omega
    have hwho := hin.who hfine hst hLne hmem
    have hT4' : TbAt W [] [] T g w4 := hT4.weak (List.sublist_append_right _ _)
    have done : ∀ (who : Int) (v27 u6 u7 u2 : Value), TxK T who → flotillalaw13_LockEnds_k4 (std Tryz.prog) (.pointer (some ⟨g, 0, none⟩)) vs (fun vs' w' => (∃ (t : Nat) (T : Tb) (M : List Int), vs'.getD 4 undef = .int .i64 t ∧ TbAt W [] [] T g w' ∧ Fine T 60 ∧ Stuck T ∧ t + M.length ≤ 60 ∧ ∀ x, TxK T x → x ∈ M) ∧ 300 - (intOf (vs'.getD 4 undef)).toNat < 300 - (intOf (Value.int .i64 t)).toNat) v27 u6 u7 u2 (.int .i64 who) w4 fun r w' => r = .bool true ∧ Upd W w' [] := fun who v27 u6 u7 u2 hk => by
      refine Ends_k4 hT4' hfine hst et (by omega) fun T' w' u2' h1 h2 h3 h4 => ?_
      have hwM : who ∈ M := hMx who hk
      refine ⟨⟨t + 1, T', M.filter (fun y => !decide (y = who)), rfl, h4, h1, h2, ?_, fun x hx => ?_⟩, ?_⟩
      · have := outN_lt hwM
        unfold outN at this
        omega
      · obtain ⟨a1, a2⟩ := h3 x hx
        rw [List.mem_filter]
        exact ⟨hMx x a1, by simpa using a2⟩
      · simp only [List.getD_cons_succ, List.getD_cons_zero, intOf]; omega
    unfold flotillalaw13_LockEnds_k2 flotillalaw13_LockEnds_k3
    rw [e0, e1]
    simp (disch := first | assumption | omega) only [PX, BX]
    refine ⟨fun hv0 => ⟨fun hf0 => absurd ⟨hv0, hf0⟩ hwho, fun hf0 => ⟨fun _ => ?_, fun h => absurd hv0 h⟩⟩, fun hv0 => ⟨fun h => absurd h hv0, fun _ => ?_⟩⟩
    · exact done _ _ _ _ _ (hin.hfr.resolve_left hf0)
    · exact done _ _ _ _ _ (hin.hvic.resolve_left hv0)
end
end Go.Proofs.YtakifgecgmdjcaaGreat

/- The document's locks and the table: who goes in, who goes. -/
namespace Go.Proofs.YtakifgecgmdjcaaGreat
open Go Xf Go.RowKit
set_option linter.unusedVariables false
set_option linter.unusedSimpArgs false
set_option maxRecDepth 100000

def grsOf (l : List Rw) : List Gr := l.map grOf
/-- what is seen of a table where one name is held apart -/
def HAt (s : List UInt8) (n : Nm) (Ho : Int → List UInt8 → Option Int) : Int → List UInt8 → Option Int := fun y s' => if s' = s then aGet n.held y else Ho y s'
def LAt (s : List UInt8) (l : List Int) (Lo : List UInt8 → List Int) : List UInt8 → List Int := fun s' => if s' = s then l else Lo s'
theorem first_row {D : Rt} {s : List UInt8} {n : Nm} {ws : List (Int × Wt)} (hN : GoodN ws s n) (hr : (inD D s).map (·.txn) = n.turns ++ n.row) : (inD D s = [] → firstN n = 0) ∧ ∀ r l, inD D s = r :: l → firstN n = r.txn ∧ firstN n ≠ 0 := by
  refine ⟨fun h => ?_, fun r l h => ?_⟩
  · rw [h] at hr
    exact rowsN_nil (by unfold rowsN; exact hr.symm)
  · rw [h, List.map_cons] at hr
    have h1 : firstN n = r.txn := by
      unfold firstN
      cases ht : n.turns with
      | cons x t => rw [ht] at hr; injection hr with h1 h2; exact h1.symm
      | nil =>
        rw [ht, List.nil_append] at hr
        cases hrw : n.row with
        | cons x t => rw [hrw] at hr; injection hr with h1 h2; exact h1.symm
        | nil => rw [hrw] at hr; cases hr
    refine ⟨h1, ?_⟩
    have hm : r.txn ∈ rowsN n := by unfold rowsN; rw [← hr]; exact List.mem_cons_self ..
    obtain ⟨w, -, -, e3, -⟩ := hN.rows _ hm
    omega
theorem outN_absent {l : List Int} {x : Int} (h : x ∉ l) : outN l x = l := outN_not h
theorem pass_sim (s : List UInt8) (Ho : Int → List UInt8 → Option Int) (Tuo Roo : List UInt8 → List Int) : ∀ (k : Nat) (n : Nm) (ws : List (Int × Wt)) (D : Rt), GoodN ws s n → Keys1 ws → Keys1 n.held → n.turns.length + n.row.length ≤ k →
    SimV (HAt s n Ho) (aGet ws) (LAt s n.turns Tuo) (LAt s n.row Roo) D → ∀ out D', PassT s D out D' →
    SimV (HAt s (passN k n ws).1 Ho) (aGet (passN k n ws).2.1) (LAt s (passN k n ws).1.turns Tuo) (LAt s (passN k n ws).1.row Roo) D' ∧ (passN k n ws).2.2 = grsOf out ∧ D'.has.length + D'.waits.length ≤ D.has.length + D.waits.length
  | 0, n, ws, D, hN, hws, hkn, hl, hS, out, D', hP => by
    have hr := hS.rows s
    unfold LAt at hr
    rw [if_pos rfl, if_pos rfl] at hr
    have ht : n.turns = [] := List.eq_nil_of_length_eq_zero (by omega)
    have hrw : n.row = [] := List.eq_nil_of_length_eq_zero (by omega)
    cases hP with
    | stop _ => exact ⟨hS, rfl, Nat.le_refl _⟩
    | go h1 _ _ => rw [h1, ht, hrw] at hr; cases hr
  | k + 1, n, ws, D, hN, hws, hkn, hl, hS, out, D', hP => by
    have hr := hS.rows s
    unfold LAt at hr
    rw [if_pos rfl, if_pos rfl] at hr
    obtain ⟨f1, f2⟩ := first_row hN hr
    have hH : ∀ y, HAt s n Ho y s = aGet n.held y := fun y => by unfold HAt; rw [if_pos rfl]
    cases hP with
    | stop hst =>
      have e : passN (k + 1) n ws = (n, ws, []) := by
        cases hin : inD D s with
        | nil => unfold passN; rw [if_pos (f1 hin)]
        | cons r l =>
          obtain ⟨g1, g2⟩ := f2 r l hin
          have hgo := hst r l hin
          have hrm := inD_mem (D := D) (s := s) (r := r) (by rw [hin]; exact List.mem_cons_self ..)
          have hw := wait_row hS.wk hrm.1
          rw [hS.w] at hw
          rw [hS.goes hH hkn] at hgo
          unfold passN
          rw [if_neg g2, if_neg]
          rw [g1, hw, Option.getD_some]
          show ¬ goesB n r.txn (wouldN n r.txn r.mode) = true
          rw [hgo]; exact Bool.false_ne_true
      rw [e]
      exact ⟨hS, rfl, Nat.le_refl _⟩
    | @go _ _ r l out' hin hgo hrest =>
      obtain ⟨g1, g2⟩ := f2 r l hin
      have hrm := inD_mem (D := D) (s := s) (r := r) (by rw [hin]; exact List.mem_cons_self ..)
      have hw := wait_row hS.wk hrm.1
      have hww := hw
      rw [hS.w] at hw
      have hwo := hS.would hH r.txn r.mode
      rw [hS.goes hH hkn] at hgo
      have hwm : ((aGet ws (firstN n)).getD ⟨[], 0⟩).mode = r.mode := by rw [g1, hw]; rfl
      have hgo' : goesB n (firstN n) (wouldN n (firstN n) ((aGet ws (firstN n)).getD ⟨[], 0⟩).mode) = true := by rw [hwm, g1]; exact hgo
      have hlt := leaveN_lt g2
      have hnx := hN.next hws g2 hgo'
      rw [passN_go g2 hgo']
      have hS1 := (hS.unwait r.txn).give r.txn s r.mode
      have hwD : wouldD ⟨D.has, waitingD D r.txn⟩ r.txn s r.mode = wouldN n r.txn r.mode := hwo
      have hother : ∀ s', s' ≠ s → r.txn ∉ Tuo s' ∧ r.txn ∉ Roo s' := fun s' hne => by
        have key : ∀ q : Rw, q ∈ D.waits → q.name = s' → q.txn ≠ r.txn := fun q hq hqn he => by
          have h1 := wait_row hS.wk hq
          rw [he, hww] at h1
          injection h1 with h1
          have : r.name = q.name := congrArg Wt.name h1
          exact hne (by rw [← hqn, ← this, hrm.2])
        have h1 := hS.tu s'
        have h2 := hS.ro s'
        unfold LAt at h1 h2
        rw [if_neg hne] at h1 h2
        refine ⟨fun hm => ?_, fun hm => ?_⟩
        · rw [← h1] at hm
          obtain ⟨q, hq, he⟩ := List.mem_map.1 hm
          have := inD_mem (D := D) (s := s') (r := q) (List.mem_append_left _ hq)
          exact key q this.1 this.2 he
        · rw [← h2] at hm
          obtain ⟨q, hq, he⟩ := List.mem_map.1 hm
          have := inD_mem (D := D) (s := s') (r := q) (List.mem_append_right _ hq)
          exact key q this.1 this.2 he
      have hS2 : SimV (HAt s { leaveN n (firstN n) with held := aSet n.held (firstN n) (wouldN n (firstN n) ((aGet ws (firstN n)).getD ⟨[], 0⟩).mode) } Ho) (aGet (aDel ws (firstN n))) (LAt s (outN n.turns (firstN n)) Tuo) (LAt s (outN n.row (firstN n)) Roo) (getT ⟨D.has, waitingD D r.txn⟩ r.txn s r.mode) := by
        refine hS1.congr (fun y s' => ?_) (fun y => ?_) (fun s' => ?_) (fun s' => ?_)
        · rw [hwD, hwm, g1]
          unfold HAt
          by_cases hs : s' = s
          · rw [if_pos hs, if_pos hs]
            show _ = aGet (aSet n.held r.txn (wouldN n r.txn r.mode)) y
            rw [aGet_aSet]
            by_cases hy : y = r.txn
            · rw [if_pos ⟨hy, hs⟩, if_pos hy]
            · rw [if_neg (fun h => hy h.1), if_neg hy]
          · rw [if_neg (fun h => hs h.2), if_neg hs, if_neg hs]
        · rw [g1, aGet_aDel hws]
        · unfold LAt
          by_cases hs : s' = s
          · rw [if_pos hs, if_pos hs, g1]
          · rw [if_neg hs, if_neg hs, outN_absent (hother s' hs).1]
        · unfold LAt
          by_cases hs : s' = s
          · rw [if_pos hs, if_pos hs, g1]
          · rw [if_neg hs, if_neg hs, outN_absent (hother s' hs).2]
      obtain ⟨i1, i2, i3⟩ := pass_sim s Ho Tuo Roo k _ _ _ hnx hws.del hkn.set (by show (outN n.turns (firstN n)).length + (outN n.row (firstN n)).length ≤ k; omega) hS2 out' D' hrest
      refine ⟨i1, ?_, ?_⟩
      · show (firstN n, (aGet ws (firstN n)).getD ⟨[], 0⟩) :: _ = grsOf (r :: out')
        rw [i2, g1, hw]; rfl
      · have h1 := (getT_len (D := ⟨D.has, waitingD D r.txn⟩) (x := r.txn) (s := s) (m := r.mode)).1
        have h2 : (getT ⟨D.has, waitingD D r.txn⟩ r.txn s r.mode).waits.length = (waitingD D r.txn).length := rfl
        have h3 := waiting_lt hrm.1
        have h1 : (getT ⟨D.has, waitingD D r.txn⟩ r.txn s r.mode).has.length ≤ D.has.length + 1 := h1
        omega
def turnsT (T : Tb) (s : List UInt8) : List Int := match aGet T.names s with | some q => q.2.turns | none => []
def rowT (T : Tb) (s : List UInt8) : List Int := match aGet T.names s with | some q => q.2.row | none => []
/-- the table and the document's -/
def Sim (T : Tb) (D : Rt) : Prop := SimV (fun x s => hasT T x s) (aGet T.waits) (turnsT T) (rowT T) D
/-- does one leave something on a name? -/
def invB (T : Tb) (txn : Int) (all : Bool) (s : List UInt8) : Bool := match aGet T.names s with | some q => ((aGet q.2.held txn).isSome && all) || leftB q.2 txn | none => false
def HX (l : List (List UInt8)) (txn : Int) (all : Bool) (T : Tb) : Int → List UInt8 → Option Int := fun y s => if all = true ∧ y = txn ∧ s ∈ l then none else hasT T y s
def LX' (l : List (List UInt8)) (txn : Int) (f : List UInt8 → List Int) : List UInt8 → List Int := fun s => if s ∈ l then outN (f s) txn else f s
theorem hasT_some' {T : Tb} {s : List UInt8} {q : Nat × Nm} (hq : aGet T.names s = some q) (y : Int) : hasT T y s = aGet q.2.held y := by unfold hasT; rw [hq]; rfl
theorem goneL_sim {B : Nat} (txn : Int) (all : Bool) : ∀ (l : List (List UInt8)) (T : Tb) (D : Rt), GoodX l txn T → okT T B → l.Nodup → SimV (HX l txn all T) (aGet T.waits) (LX' l txn (turnsT T)) (LX' l txn (rowT T)) D →
    ∀ out D', GoneT (l.filter (invB T txn all)) D out D' → Sim (goneL txn all l T).1 D' ∧ (goneL txn all l T).2 = grsOf out ∧ D'.has.length + D'.waits.length ≤ D.has.length + D.waits.length
  | [], T, D, hg, hok, hn, hS, out, D', hG => by
    cases hG
    exact ⟨hS.congr (fun y s => by unfold HX; rw [if_neg (fun h => by cases h.2.2)]; rfl) (fun _ => rfl) (fun s => by unfold LX'; rw [if_neg (by simp)]; rfl) (fun s => by unfold LX'; rw [if_neg (by simp)]; rfl), rfl, Nat.le_refl _⟩
  | s :: l, T, D, hg, hok, hn, hS, out, D', hG => by
    rw [List.nodup_cons] at hn
    have hmem : ∀ s', s' ≠ s → (s' ∈ s :: l ↔ s' ∈ l) := fun s' h => by simp [h]
    cases hq : aGet T.names s with
    | none =>
      have e : goneL txn all (s :: l) T = goneL txn all l T := by conv => lhs; unfold goneL; rw [hq]
      rw [e]
      have hinv : invB T txn all s = false := by unfold invB; rw [hq]
      rw [List.filter_cons_of_neg (by rw [hinv]; exact Bool.false_ne_true)] at hG
      have hne : ∀ s' q', aGet T.names s' = some q' → s' ≠ s := fun s' q' h' he => by rw [he, hq] at h'; cases h'
      have hv : ∀ s' q' n, aGet T.names s' = some q' → virt (s :: l) txn s' n = virt l txn s' n := fun s' q' n h' => by unfold virt; simp only [hmem s' (hne s' q' h')]
      refine goneL_sim txn all l T D ⟨fun s' q' h' => by rw [← hv s' q' _ h']; exact hg.nm s' q' h', fun x w hx => ?_, hg.live⟩ hok hn.2 (hS.congr (fun y s' => ?_) (fun _ => rfl) (fun s' => ?_) fun s' => ?_) out D' hG
      · obtain ⟨q', h1, h2⟩ := hg.conv x w hx
        exact ⟨q', h1, by rw [← hv _ q' _ h1]; exact h2⟩
      · unfold HX
        by_cases hs : s' = s
        · subst hs
          have : hasT T y s' = none := by unfold hasT; rw [hq]; rfl
          rw [this]; split <;> split <;> rfl
        · simp only [hmem s' hs]
      · unfold LX'
        by_cases hs : s' = s
        · subst hs
          have : turnsT T s' = [] := by unfold turnsT; rw [hq]
          rw [this]; split <;> split <;> rfl
        · simp only [hmem s' hs]
      · unfold LX'
        by_cases hs : s' = s
        · subst hs
          have : rowT T s' = [] := by unfold rowT; rw [hq]
          rw [this]; split <;> split <;> rfl
        · simp only [hmem s' hs]
    | some q =>
      have hokn := hok.nm s q hq
      have hN := hg.nm s q hq
      unfold virt at hN
      rw [if_pos (List.mem_cons_self ..)] at hN
      have hgood1 := goneS_good all hg hok hn.1 hq
      obtain ⟨hok1, -, hkeep⟩ := goneS_ok txn all hok hq
      rw [goneL_cons hq]
      have hinvl : l.filter (invB (goneS T s q txn all).1 txn all) = l.filter (invB T txn all) := List.filter_congr fun s' hs' => by
        unfold invB
        rw [hkeep s' (fun he => hn.1 (he ▸ hs'))]
      have hothH : ∀ y s', s' ≠ s → HX l txn all (goneS T s q txn all).1 y s' = HX l txn all T y s' := fun y s' hs => by unfold HX hasT; rw [hkeep s' hs]
      have hothL : ∀ s', s' ≠ s → LX' l txn (turnsT (goneS T s q txn all).1) s' = LX' l txn (turnsT T) s' ∧ LX' l txn (rowT (goneS T s q txn all).1) s' = LX' l txn (rowT T) s' := fun s' hs => by
        unfold LX' turnsT rowT; rw [hkeep s' hs]; exact ⟨rfl, rfl⟩
      have hHs : ∀ y, HX (s :: l) txn all T y s = if all = true ∧ y = txn then none else aGet q.2.held y := fun y => by
        unfold HX; rw [hasT_some' hq]
        by_cases h : all = true ∧ y = txn
        · rw [if_pos ⟨h.1, h.2, List.mem_cons_self ..⟩, if_pos h]
        · rw [if_neg (fun h' => h ⟨h'.1, h'.2.1⟩), if_neg h]
      have hLs : LX' (s :: l) txn (turnsT T) s = outN q.2.turns txn ∧ LX' (s :: l) txn (rowT T) s = outN q.2.row txn := by
        unfold LX' turnsT rowT; rw [if_pos (List.mem_cons_self ..), if_pos (List.mem_cons_self ..), hq]; exact ⟨rfl, rfl⟩
      cases hinv : invB T txn all s with
      | false =>
        rw [List.filter_cons_of_neg (by rw [hinv]; exact Bool.false_ne_true), ← hinvl] at hG
        unfold invB at hinv
        rw [hq] at hinv
        simp only [Bool.or_eq_false_iff] at hinv
        have hT1 : goneS T s q txn all = (putN T s (q.1, leaveN q.2 txn), []) := by
          unfold goneS
          rw [if_neg (by rw [hinv.1]; exact Bool.false_ne_true), if_neg (by rw [hinv.2]; exact Bool.false_ne_true)]
        have hnr := leftB_not hinv.2
        have hlv := leaveN_not hnr
        have hrn : txn ∉ q.2.turns ∧ txn ∉ q.2.row := by unfold rowsN at hnr; rw [List.mem_append, not_or] at hnr; exact hnr
        have hget : aGet (goneS T s q txn all).1.names s = some q := by rw [hT1]; show aGet (putN T s (q.1, leaveN q.2 txn)).names s = some q; rw [get_putN, hlv]
        have hS1 : SimV (HX l txn all (goneS T s q txn all).1) (aGet (goneS T s q txn all).1.waits) (LX' l txn (turnsT (goneS T s q txn all).1)) (LX' l txn (rowT (goneS T s q txn all).1)) D := by
          refine hS.congr (fun y s' => ?_) (fun y => by rw [hT1]; rfl) (fun s' => ?_) fun s' => ?_
          · by_cases hs : s' = s
            · subst hs
              have hR : HX l txn all (goneS T s' q txn all).1 y s' = aGet q.2.held y := by unfold HX; rw [if_neg (fun h => hn.1 h.2.2), hasT_some' hget]
              rw [hHs, hR]
              by_cases h : all = true ∧ y = txn
              · rw [if_pos h, h.2]
                have := hinv.1
                rw [h.1, Bool.and_true] at this
                cases hh : aGet q.2.held txn with
                | none => rfl
                | some m => rw [hh] at this; cases this
              · rw [if_neg h]
            · rw [hothH y s' hs]
              unfold HX
              simp only [hmem s' hs]
          · by_cases hs : s' = s
            · subst hs
              rw [hLs.1]
              unfold LX' turnsT
              rw [if_neg hn.1, hget, outN_absent hrn.1]
            · rw [(hothL s' hs).1]
              unfold LX'
              simp only [hmem s' hs]
          · by_cases hs : s' = s
            · subst hs
              rw [hLs.2]
              unfold LX' rowT
              rw [if_neg hn.1, hget, outN_absent hrn.2]
            · rw [(hothL s' hs).2]
              unfold LX'
              simp only [hmem s' hs]
        obtain ⟨i1, i2, i3⟩ := goneL_sim txn all l _ D hgood1 hok1 hn.2 hS1 out D' hG
        refine ⟨i1, ?_, i3⟩
        show (goneS T s q txn all).2 ++ _ = _
        rw [i2, hT1]; rfl
      | true =>
        rw [List.filter_cons_of_pos hinv, ← hinvl] at hG
        cases hG with
        | @cons _ _ _ D1 _ o1 o2 hP hG2 =>
        -- the name, without the one who goes
        obtain ⟨n1, hn1N, hn1k, hn1h, hn1t, hn1r, hT1⟩ : ∃ n1 : Nm, GoodN T.waits s n1 ∧ Keys1 n1.held ∧ (∀ y, aGet n1.held y = if all = true ∧ y = txn then none else aGet q.2.held y) ∧ n1.turns = outN q.2.turns txn ∧ n1.row = outN q.2.row txn ∧ goneS T s q txn all = passT (putN T s (q.1, n1)) s (q.1, n1) := by
          by_cases hc : ((aGet q.2.held txn).isSome && all) = true
          · rw [Bool.and_eq_true] at hc
            refine ⟨{ leaveN q.2 txn with held := aDel q.2.held txn }, hN.held_eq hokn.2.2 (not_mem_leave _ _), hokn.2.2.del, fun y => ?_, rfl, rfl, ?_⟩
            · show aGet (aDel q.2.held txn) y = _
              rw [aGet_aDel hokn.2.2]
              by_cases hy : y = txn
              · rw [if_pos hy, if_pos ⟨hc.2, hy⟩]
              · rw [if_neg hy, if_neg (fun h => hy h.2)]
            · unfold goneS; rw [if_pos (by rw [hc.1, hc.2]; rfl)]
          · refine ⟨leaveN q.2 txn, hN, hokn.2.2, fun y => ?_, rfl, rfl, ?_⟩
            · by_cases h : all = true ∧ y = txn
              · rw [if_pos h, h.2]
                show aGet q.2.held txn = none
                cases hh : aGet q.2.held txn with
                | none => rfl
                | some m => rw [hh, h.1] at hc; exact absurd rfl hc
              · rw [if_neg h]; rfl
            · unfold invB at hinv
              rw [hq] at hinv
              have hl : leftB q.2 txn = true := by
                have hc' : ((aGet q.2.held txn).isSome && all) = false := by simpa using hc
                simp only at hinv
                rw [hc', Bool.false_or] at hinv
                exact hinv
              unfold goneS
              rw [if_neg hc, if_pos hl]
        have hSs : SimV (HAt s n1 (HX l txn all T)) (aGet T.waits) (LAt s n1.turns (LX' l txn (turnsT T))) (LAt s n1.row (LX' l txn (rowT T))) D := by
          refine hS.congr (fun y s' => ?_) (fun _ => rfl) (fun s' => ?_) fun s' => ?_
          · unfold HAt
            by_cases hs : s' = s
            · subst hs; rw [if_pos rfl, hHs, hn1h]
            · rw [if_neg hs]; unfold HX; simp only [hmem s' hs]
          · unfold LAt
            by_cases hs : s' = s
            · subst hs; rw [if_pos rfl, hLs.1, hn1t]
            · rw [if_neg hs]; unfold LX'; simp only [hmem s' hs]
          · unfold LAt
            by_cases hs : s' = s
            · subst hs; rw [if_pos rfl, hLs.2, hn1r]
            · rw [if_neg hs]; unfold LX'; simp only [hmem s' hs]
        obtain ⟨p1, p2, p3⟩ := pass_sim s (HX l txn all T) (LX' l txn (turnsT T)) (LX' l txn (rowT T)) (n1.turns.length + n1.row.length) n1 T.waits D hn1N hok.wkeys hn1k (Nat.le_refl _) hSs o1 D1 hP
        obtain ⟨-, -, -, -, -, g6⟩ := passN_good (n1.turns.length + n1.row.length) n1 T.waits hn1N hok.wkeys (Nat.le_refl _)
        have hputk : Keys1 (putN T s (q.1, n1)).names := hok.keys.set
        have hview : ∀ y, hasT (goneS T s q txn all).1 y s = aGet (passN (n1.turns.length + n1.row.length) n1 T.waits).1.held y := fun y => by
          rw [hT1]
          unfold passT hasT
          by_cases hz : (passN (n1.turns.length + n1.row.length) n1 T.waits).1.held.length = 0
          · show ((aGet (if (passN (n1.turns.length + n1.row.length) n1 T.waits).1.held.length = 0 then _ else _) s).bind _) = _
            rw [if_pos hz, aGet_aDel hputk, if_pos rfl, List.eq_nil_of_length_eq_zero hz]; rfl
          · show ((aGet (if (passN (n1.turns.length + n1.row.length) n1 T.waits).1.held.length = 0 then _ else _) s).bind _) = _
            rw [if_neg hz, aGet_aSet, if_pos rfl]; rfl
        have hviewt : turnsT (goneS T s q txn all).1 s = (passN (n1.turns.length + n1.row.length) n1 T.waits).1.turns ∧ rowT (goneS T s q txn all).1 s = (passN (n1.turns.length + n1.row.length) n1 T.waits).1.row := by
          rw [hT1]
          have hwp : (putN T s (q.1, n1)).waits = T.waits := rfl
          unfold passT turnsT rowT
          simp only [hwp]
          by_cases hz : (passN (n1.turns.length + n1.row.length) n1 T.waits).1.held.length = 0
          · have hr0 := g6 (List.eq_nil_of_length_eq_zero hz)
            unfold rowsN at hr0
            rw [List.append_eq_nil_iff] at hr0
            simp only [hz, if_true]
            rw [aGet_aDel hputk, if_pos rfl]
            exact ⟨hr0.1.symm, hr0.2.symm⟩
          · simp only [hz, if_false]
            rw [aGet_aSet, if_pos rfl]
            exact ⟨rfl, rfl⟩
        have hS1 : SimV (HX l txn all (goneS T s q txn all).1) (aGet (goneS T s q txn all).1.waits) (LX' l txn (turnsT (goneS T s q txn all).1)) (LX' l txn (rowT (goneS T s q txn all).1)) D1 := by
          refine p1.congr (fun y s' => ?_) (fun y => by rw [hT1]; rfl) (fun s' => ?_) fun s' => ?_
          · unfold HAt
            by_cases hs : s' = s
            · subst hs
              rw [if_pos rfl]
              unfold HX
              rw [if_neg (fun h => hn.1 h.2.2), hview]
            · rw [if_neg hs, hothH y s' hs]
          · unfold LAt
            by_cases hs : s' = s
            · subst hs
              rw [if_pos rfl]
              unfold LX'
              rw [if_neg hn.1, hviewt.1]
            · rw [if_neg hs, (hothL s' hs).1]
          · unfold LAt
            by_cases hs : s' = s
            · subst hs
              rw [if_pos rfl]
              unfold LX'
              rw [if_neg hn.1, hviewt.2]
            · rw [if_neg hs, (hothL s' hs).2]
        obtain ⟨i1, i2, i3⟩ := goneL_sim txn all l _ D1 hgood1 hok1 hn.2 hS1 o2 D' hG2
        refine ⟨i1, ?_, Nat.le_trans i3 p3⟩
        show (goneS T s q txn all).2 ++ _ = _
        rw [i2]
        have : (goneS T s q txn all).2 = grsOf o1 := by rw [hT1]; exact p2
        rw [this]
        unfold grsOf
        rw [List.map_append]
end Go.Proofs.YtakifgecgmdjcaaGreat

/- The document's locks and the table: Gone, Ask; what they tell. -/
namespace Go.Proofs.YtakifgecgmdjcaaGreat
open Go Xf Go.RowKit
set_option linter.unusedVariables false
set_option linter.unusedSimpArgs false
set_option maxRecDepth 100000

section
variable {T : Tb} {D : Rt}
theorem Sim.empty : Sim ⟨[], []⟩ ⟨[], []⟩ := ⟨List.nodup_nil, List.nodup_nil, fun x s => rfl, fun x => rfl, fun s => rfl, fun s => rfl⟩
theorem noname {s : List UInt8} (h : aGet T.names s = none) : (∀ x, hasT T x s = none) ∧ turnsT T s = [] ∧ rowT T s = [] := by
  refine ⟨fun x => by unfold hasT; rw [h]; rfl, ?_, ?_⟩
  · unfold turnsT; rw [h]
  · unfold rowT; rw [h]
theorem hasL_out (D : Rt) (x : Int) (l : List Rw) : (hasL ⟨D.has.filter (fun r => decide (r.txn ≠ x)), l⟩) = (hasL D).filter fun q => decide (q.1.1 ≠ x) := by
  unfold hasL
  rw [List.filter_map]
  rfl
theorem leftB_iff {n : Nm} {x : Int} : leftB n x = true ↔ x ∈ n.turns ∨ x ∈ n.row := by
  constructor
  · intro h
    have hm : x ∈ rowsN n := Classical.byContradiction fun hn => by
      have := leaveN_not hn
      unfold leftB at h
      have h := of_decide_eq_true h
      unfold rowsN at hn
      rw [List.mem_append, not_or] at hn
      rw [outN_not hn.1, outN_not hn.2] at h
      omega
    exact List.mem_append.1 hm
  · intro h
    unfold leftB
    have h1 := outN_le n.turns x
    have h2 := outN_le n.row x
    refine decide_eq_true ?_
    rcases h with h | h
    · have := outN_lt h; omega
    · have := outN_lt h; omega
theorem wait_rows (hS : Sim T D) (x : Int) (s : List UInt8) : (∃ r ∈ D.waits, r.txn = x ∧ r.name = s) ↔ x ∈ turnsT T s ∨ x ∈ rowT T s := by
  rw [← hS.tu s, ← hS.ro s]
  constructor
  · rintro ⟨r, hr, h1, h2⟩
    cases ht : r.turn with
    | true => exact .inl (List.mem_map.2 ⟨r, by unfold tuD; rw [List.mem_filter]; exact ⟨hr, by rw [decide_eq_true h2, ht]; rfl⟩, h1⟩)
    | false => exact .inr (List.mem_map.2 ⟨r, by unfold roD; rw [List.mem_filter]; exact ⟨hr, by rw [decide_eq_true h2, ht]; rfl⟩, h1⟩)
  · rintro (h | h)
    · obtain ⟨r, hr, he⟩ := List.mem_map.1 h
      have := inD_mem (D := D) (s := s) (r := r) (List.mem_append_left _ hr)
      exact ⟨r, this.1, he, this.2⟩
    · obtain ⟨r, hr, he⟩ := List.mem_map.1 h
      have := inD_mem (D := D) (s := s) (r := r) (List.mem_append_right _ hr)
      exact ⟨r, this.1, he, this.2⟩
theorem has_rows (hS : Sim T D) (x : Int) (s : List UInt8) : (∃ r ∈ D.has, r.txn = x ∧ r.name = s) ↔ (hasT T x s).isSome = true := by
  rw [← hS.has x s]
  constructor
  · rintro ⟨r, hr, h1, h2⟩
    have := has_row hS.hk hr
    rw [h1, h2] at this
    rw [this]; rfl
  · intro h
    obtain ⟨m, hm⟩ := Option.isSome_iff_exists.1 h
    obtain ⟨r, hr, h1, h2, -⟩ := has_of hm
    exact ⟨r, hr, h1, h2⟩
theorem goneT_sim {B : Nat} (hS : Sim T D) (hg : Good T) (hok : okT T B) (txn : Int) (all : Bool) {names : List (List UInt8)} (hn : NamesIn txn (srcD D all) names) {out : List Rw} {D' : Rt} (hG : GoneT names (startD D txn all) out D') :
    Sim (goneT T txn all).1 D' ∧ (goneT T txn all).2 = grsOf out ∧ D'.has.length + D'.waits.length ≤ D.has.length + D.waits.length := by
  have hsl : ∀ s, s ∈ sortS (T.names.map (·.1)) ↔ (aGet T.names s).isSome = true := fun s => by rw [(sortS_perm _).mem_iff, ← aGet_keys]
  have hnm : names = (sortS (T.names.map (·.1))).filter (invB ⟨T.names, aDel T.waits txn⟩ txn all) := by
    refine sorted_ext (fun a b h1 h2 => List.lt_irrefl a (List.lt_trans h1 h2)) hn.1 ((sortS_lt hok.keys).sublist List.filter_sublist) fun s => ?_
    rw [hn.2.1, List.mem_filter, hsl]
    have hinv : (aGet T.names s).isSome = true ∧ invB ⟨T.names, aDel T.waits txn⟩ txn all s = true ↔ (all = true ∧ (hasT T txn s).isSome = true) ∨ (txn ∈ turnsT T s ∨ txn ∈ rowT T s) := by
      unfold invB
      cases hq : aGet T.names s with
      | none =>
        obtain ⟨h1, h2, h3⟩ := noname hq
        rw [h1, h2, h3]; simp [hq]
      | some q =>
        simp only [hq, Option.isSome_some, true_and, Bool.or_eq_true, Bool.and_eq_true, leftB_iff]
        unfold turnsT rowT
        rw [hasT_some' hq]
        simp only [hq]
        constructor
        · rintro (⟨h1, h2⟩ | h)
          · exact .inl ⟨h2, h1⟩
          · exact .inr h
        · rintro (⟨h1, h2⟩ | h)
          · exact .inl ⟨h2, h1⟩
          · exact .inr h
    rw [hinv, ← has_rows hS, ← wait_rows hS]
    unfold srcD
    cases all with
    | true =>
      simp only [if_true, List.mem_append, true_and]
      constructor
      · rintro ⟨r, hr | hr, h⟩
        · exact .inr ⟨r, hr, h⟩
        · exact .inl ⟨r, hr, h⟩
      · rintro (⟨r, hr, h⟩ | ⟨r, hr, h⟩)
        · exact ⟨r, .inr hr, h⟩
        · exact ⟨r, .inl hr, h⟩
    | false => simp
  have hS1 := hS.unwait txn
  have hS0 : SimV (HX (sortS (T.names.map (·.1))) txn all ⟨T.names, aDel T.waits txn⟩) (aGet (aDel T.waits txn)) (LX' (sortS (T.names.map (·.1))) txn (turnsT ⟨T.names, aDel T.waits txn⟩)) (LX' (sortS (T.names.map (·.1))) txn (rowT ⟨T.names, aDel T.waits txn⟩)) (startD D txn all) := by
    have hl : ∀ s, s ∉ sortS (T.names.map (·.1)) → aGet T.names s = none := fun s h => by
      cases hq : aGet T.names s with
      | none => rfl
      | some q => exact absurd ((hsl s).2 (by rw [hq]; rfl)) h
    have hLXt : ∀ s, outN (turnsT T s) txn = LX' (sortS (T.names.map (·.1))) txn (turnsT ⟨T.names, aDel T.waits txn⟩) s := fun s => by
      unfold LX'
      split
      · rfl
      · rename_i h
        show _ = turnsT T s
        rw [(noname (hl s h)).2.1]; rfl
    have hLXr : ∀ s, outN (rowT T s) txn = LX' (sortS (T.names.map (·.1))) txn (rowT ⟨T.names, aDel T.waits txn⟩) s := fun s => by
      unfold LX'
      split
      · rfl
      · rename_i h
        show _ = rowT T s
        rw [(noname (hl s h)).2.2]; rfl
    have hw : ∀ y, (if y = txn then none else aGet T.waits y) = aGet (aDel T.waits txn) y := fun y => by rw [aGet_aDel hok.wkeys]
    cases all with
    | false =>
      refine ⟨hS1.hk, hS1.wk, fun y s => ?_, fun y => (hS1.w y).trans (hw y), fun s => (hS1.tu s).trans (hLXt s), fun s => (hS1.ro s).trans (hLXr s)⟩
      unfold HX
      rw [if_neg (fun h => by cases h.1)]
      exact hS1.has y s
    | true =>
      have hhl : hasL (startD D txn true) = (hasL D).filter fun q => decide (q.1.1 ≠ txn) := hasL_out D txn _
      refine ⟨by rw [hhl]; exact hS.hk.filter _, hS1.wk, fun y s => ?_, fun y => (hS1.w y).trans (hw y), fun s => (hS1.tu s).trans (hLXt s), fun s => (hS1.ro s).trans (hLXr s)⟩
      rw [hhl, aGet_filter (fun k : Int × List UInt8 => decide (k.1 ≠ txn)), hS.has]
      unfold HX
      by_cases hy : y = txn
      · rw [if_neg (by simpa using hy)]
        by_cases hs : s ∈ sortS (T.names.map (·.1))
        · rw [if_pos ⟨rfl, hy, hs⟩]
        · rw [if_neg (fun h => hs h.2.2)]
          exact ((noname (hl s hs)).1 y).symm
      · rw [if_pos (by simpa using hy), if_neg (fun h => hy h.2.1)]; rfl
  rw [hnm] at hG
  have hgx : GoodX (sortS (T.names.map (·.1))) txn ⟨T.names, aDel T.waits txn⟩ := by
    refine ⟨fun s q hq => ?_, fun x w hx => ?_, hg.live⟩
    · have hN := hg.nm s q hq
      rw [virt_nil] at hN
      unfold virt
      rw [if_pos ((hsl s).2 (by rw [show aGet T.names s = some q from hq]; rfl))]
      refine ⟨hN.held1, hN.bes, fun y hy => ?_, by rw [rowsN_leave]; exact outN_nodup hN.nodup _, fun y hy => hN.turns y (mem_outN.1 hy).1, fun y hy => hN.row y (mem_outN.1 hy).1⟩
      rw [rowsN_leave, mem_outN] at hy
      obtain ⟨w, e1, e2, e3⟩ := hN.rows y hy.1
      exact ⟨w, by show aGet (aDel T.waits txn) y = some w; rw [aGet_aDel hok.wkeys, if_neg hy.2]; exact e1, e2, e3⟩
    · have hx : aGet (aDel T.waits txn) x = some w := hx
      rw [aGet_aDel hok.wkeys] at hx
      split at hx
      · cases hx
      · rename_i hne
        obtain ⟨q, h1, h2⟩ := hg.conv x w hx
        rw [virt_nil] at h2
        refine ⟨q, h1, ?_⟩
        unfold virt
        rw [if_pos ((hsl _).2 (by rw [h1]; rfl)), rowsN_leave, mem_outN]
        exact ⟨h2, hne⟩
  obtain ⟨i1, i2, i3⟩ := goneL_sim (B := B) txn all (sortS (T.names.map (·.1))) ⟨T.names, aDel T.waits txn⟩ (startD D txn all) hgx ⟨hok.keys, hok.wkeys.del, hok.len, hok.short, hok.nm⟩ ((sortS_perm (T.names.map fun p : List UInt8 × (Nat × Nm) => p.1)).nodup_iff.2 hok.keys) hS0 out D' hG
  refine ⟨i1, i2, Nat.le_trans i3 ?_⟩
  unfold startD
  have h1 : (waitingD D txn).length ≤ D.waits.length := List.length_filter_le ..
  have h2 : (if all then D.has.filter (fun r => decide (r.txn ≠ txn)) else D.has).length ≤ D.has.length := by
    split
    · exact List.length_filter_le ..
    · exact Nat.le_refl _
  show (if all then D.has.filter (fun r => decide (r.txn ≠ txn)) else D.has).length + (waitingD D txn).length ≤ _
  omega
end
end Go.Proofs.YtakifgecgmdjcaaGreat

/- The document's locks and the table: Ask; what they tell. -/
namespace Go.Proofs.YtakifgecgmdjcaaGreat
open Go Xf Go.RowKit
set_option linter.unusedVariables false
set_option linter.unusedSimpArgs false
set_option maxRecDepth 100000

section
variable {T : Tb} {D : Rt}
theorem argsBad_iff (x : Int) (v : Wt) : argsBad x v ↔ ¬ argsOk x v := by unfold argsBad argsOk; omega
theorem askT_sim {B : Nat} (hS : Sim T D) (hg : Good T) (hok : okT T B) (new : Nat) (x : Int) (v : Wt) : Sim (askT T new x v).1 (askD D x v).1 ∧ (askT T new x v).2.1 = (askD D x v).2.1 ∧ (askT T new x v).2.2 = (askD D x v).2.2 ∧ (askD D x v).1.has.length + (askD D x v).1.waits.length ≤ D.has.length + D.waits.length + 1 := by
  unfold askT askD
  by_cases ha : argsOk x v
  rotate_left
  · rw [if_neg ha, if_pos ((argsBad_iff x v).2 ha)]
    exact ⟨hS, rfl, rfl, by show D.has.length + D.waits.length ≤ _; omega⟩
  rw [if_pos ha, if_neg (fun h => (argsBad_iff x v).1 h ha), wOf_eq, hS.w]
  by_cases hw : (aGet T.waits x).isSome = true
  · rw [if_pos hw, if_pos hw]
    exact ⟨hS, rfl, rfl, by show D.has.length + D.waits.length ≤ _; omega⟩
  rw [if_neg hw, if_neg hw]
  have hnw : aGet T.waits x = none := by
    cases hh : aGet T.waits x with
    | none => rfl
    | some y => rw [hh] at hw; exact absurd rfl hw
  -- the name, as it is seen
  obtain ⟨q, hqe, hN, hK, hH, hTu, hRo, hother⟩ : ∃ q : Nat × Nm, (aGet T.names v.name).getD (new, noNm) = q ∧ GoodN T.waits v.name q.2 ∧ Keys1 q.2.held ∧ (∀ y, hasT T y v.name = aGet q.2.held y) ∧ turnsT T v.name = q.2.turns ∧ rowT T v.name = q.2.row ∧ (aGet T.names v.name = none → q.2 = noNm) := by
    cases hg' : aGet T.names v.name with
    | none =>
      obtain ⟨h1, h2, h3⟩ := noname hg'
      exact ⟨(new, noNm), rfl, noNm_good _ _, List.nodup_nil, h1, h2, h3, fun _ => rfl⟩
    | some q =>
      refine ⟨q, rfl, hg.nm' hg', (hok.nm _ _ hg').2.2, hasT_some' hg', ?_, ?_, fun h => (by cases h)⟩
      · unfold turnsT; rw [hg']
      · unfold rowT; rw [hg']
  rw [hqe]
  have hmd : modeD D x v.name = (aGet q.2.held x).getD 0 := by unfold modeD; rw [modeD_eq, hS.has, hH]
  have hm0 : modeD D x v.name ≠ 0 ↔ (aGet q.2.held x).isSome = true := by
    rw [hmd]
    cases hh : aGet q.2.held x with
    | none => simp
    | some m =>
      have := (hN.held1 x m hh).2.2.1
      simp; omega
  have hgo : goesD D x v.name v.mode = goesB q.2 x (wouldN q.2 x v.mode) := hS.goes hH hK x v.mode
  have hwo : wouldD D x v.name v.mode = wouldN q.2 x v.mode := hS.would hH x v.mode
  have hcov : (modeD D x v.name ≠ 0 ∧ cov (sureN (modeD D x v.name)) (sureN v.mode) = true) ↔ covB q.2 x v.mode = true := by
    rw [hm0, hmd]
    unfold covB
    cases hh : aGet q.2.held x with
    | none => simp
    | some m => simp
  have hin : (inD D v.name).length = q.2.turns.length + q.2.row.length := by
    have := congrArg List.length (hS.rows v.name)
    rw [hTu, hRo] at this
    simpa using this
  have hgets : (goesD D x v.name v.mode = true ∧ (modeD D x v.name ≠ 0 ∨ (inD D v.name).length = 0)) ↔ getsB q.2 x v.mode = true := by
    unfold getsB
    rw [hgo, hm0, hin, Bool.and_eq_true, Bool.or_eq_true, decide_eq_true_iff]
  have putH : ∀ (n : Nm) (y : Int) (s : List UInt8), hasT (putN T v.name (q.1, n)) y s = if s = v.name then aGet n.held y else hasT T y s := fun n y s => hasT_put T v.name s (q.1, n) y
  have putT : ∀ (n : Nm) (s : List UInt8), turnsT (putN T v.name (q.1, n)) s = (if s = v.name then n.turns else turnsT T s) ∧ rowT (putN T v.name (q.1, n)) s = (if s = v.name then n.row else rowT T s) := fun n s => by
    unfold turnsT rowT putN
    simp only [aGet_aSet]
    by_cases hs : s = v.name
    · simp [hs]
    · simp [hs]
  show Sim (askAt T q x v).1 _ ∧ (askAt T q x v).2 = _ ∧ (0 : Int) = _ ∧ _
  unfold askAt
  by_cases hc : covB q.2 x v.mode = true
  · rw [if_pos hc, if_pos (hcov.2 hc)]
    refine ⟨hS.congr (fun y s => ?_) (fun _ => rfl) (fun s => ?_) fun s => ?_, rfl, rfl, by show D.has.length + D.waits.length ≤ _; omega⟩
    · rw [putH]; split
      · rename_i hs; rw [hs, hH]
      · rfl
    · rw [(putT q.2 s).1]; split
      · rename_i hs; rw [hs, hTu]
      · rfl
    · rw [(putT q.2 s).2]; split
      · rename_i hs; rw [hs, hRo]
      · rfl
  rw [if_neg hc, if_neg (fun h => hc (hcov.1 h))]
  by_cases hgt : getsB q.2 x v.mode = true
  · rw [if_pos hgt, if_pos (hgets.2 hgt)]
    have h1 := (getT_len (D := D) (x := x) (s := v.name) (m := v.mode)).1
    refine ⟨(hS.give x v.name v.mode).congr (fun y s => ?_) (fun _ => rfl) (fun s => ?_) fun s => ?_, rfl, rfl, by show (getT D x v.name v.mode).has.length + D.waits.length ≤ _; omega⟩
    · rw [putH, hwo]
      by_cases hs : s = v.name
      · rw [if_pos hs]
        show _ = aGet (aSet q.2.held x (wouldN q.2 x v.mode)) y
        rw [aGet_aSet]
        by_cases hy : y = x
        · rw [if_pos ⟨hy, hs⟩, if_pos hy]
        · rw [if_neg (fun h => hy h.1), if_neg hy, hs, hH]
      · rw [if_neg (fun h => hs h.2), if_neg hs]
    · rw [(putT _ s).1]; split
      · rename_i hs; rw [hs, hTu]; rfl
      · rfl
    · rw [(putT _ s).2]; split
      · rename_i hs; rw [hs, hRo]; rfl
      · rfl
  · rw [if_neg hgt, if_neg (fun h => hgt (hgets.1 h))]
    have hqh : (queueN q.2 x).held = q.2.held := by unfold queueN; split <;> rfl
    have hq : ∀ s, aGet (aSet T.names v.name (q.1, queueN q.2 x)) s = aGet (putN T v.name (q.1, queueN q.2 x)).names s := fun _ => rfl
    have htuD : ∀ s, tuD ⟨D.has, D.waits ++ [⟨x, v.name, v.mode, decide (modeD D x v.name ≠ 0)⟩]⟩ s = tuD D s ++ (if v.name = s ∧ (aGet q.2.held x).isSome = true then [⟨x, v.name, v.mode, decide (modeD D x v.name ≠ 0)⟩] else []) := fun s => by
      unfold tuD
      rw [List.filter_append]
      congr 1
      by_cases hs : v.name = s
      · by_cases hi : (aGet q.2.held x).isSome = true
        · rw [if_pos ⟨hs, hi⟩, List.filter_cons_of_pos (by simp only [decide_eq_true hs, decide_eq_true (hm0.2 hi)]; rfl)]; rfl
        · rw [if_neg (fun h => hi h.2), List.filter_cons_of_neg (by simp only [decide_eq_false (fun h => hi (hm0.1 h))]; simp)]; rfl
      · rw [if_neg (fun h => hs h.1), List.filter_cons_of_neg (by simp [hs])]; rfl
    have hroD : ∀ s, roD ⟨D.has, D.waits ++ [⟨x, v.name, v.mode, decide (modeD D x v.name ≠ 0)⟩]⟩ s = roD D s ++ (if v.name = s ∧ ¬ (aGet q.2.held x).isSome = true then [⟨x, v.name, v.mode, decide (modeD D x v.name ≠ 0)⟩] else []) := fun s => by
      unfold roD
      rw [List.filter_append]
      congr 1
      by_cases hs : v.name = s
      · by_cases hi : (aGet q.2.held x).isSome = true
        · rw [if_neg (fun h => h.2 hi), List.filter_cons_of_neg (by simp only [decide_eq_true (hm0.2 hi)]; simp)]; rfl
        · rw [if_pos ⟨hs, hi⟩, List.filter_cons_of_pos (by simp only [decide_eq_true hs, decide_eq_false (fun h => hi (hm0.1 h))]; rfl)]; rfl
      · rw [if_neg (fun h => hs h.1), List.filter_cons_of_neg (by simp [hs])]; rfl
    have hwl : waitL ⟨D.has, D.waits ++ [⟨x, v.name, v.mode, decide (modeD D x v.name ≠ 0)⟩]⟩ = waitL D ++ [(x, v)] := by
      unfold waitL; rw [List.map_append]; rfl
    have hwn : aGet (waitL D) x = none := by rw [hS.w]; exact hnw
    refine ⟨⟨hS.hk, by rw [hwl]; exact hS.wk.snoc hwn v, fun y s => ?_, fun y => ?_, fun s => ?_, fun s => ?_⟩, rfl, rfl, by show D.has.length + (D.waits ++ [_]).length ≤ _; rw [List.length_append, List.length_singleton]; omega⟩
    · show aGet (hasL D) (y, s) = hasT (putN T v.name (q.1, queueN q.2 x)) y s
      rw [putH, hqh, hS.has]
      split
      · rename_i hs; rw [hs, hH]
      · rfl
    · show aGet (waitL _) y = aGet (aSet T.waits x v) y
      rw [hwl, aGet_snoc, aGet_aSet, hS.w]
      by_cases hy : y = x
      · rw [hy, hnw, if_pos rfl]
      · rw [if_neg hy, if_neg hy]
        cases aGet T.waits y <;> rfl
    · show (tuD _ s).map (·.txn) = turnsT (putN T v.name (q.1, queueN q.2 x)) s
      rw [htuD, List.map_append, hS.tu, (putT _ s).1]
      by_cases hs : s = v.name
      · rw [if_pos hs]
        unfold queueN
        by_cases hi : (aGet q.2.held x).isSome = true
        · rw [if_pos ⟨hs.symm, hi⟩, if_pos hi, hs, hTu]; rfl
        · rw [if_neg (fun h => hi h.2), if_neg hi, hs, hTu]; simp
      · rw [if_neg hs, if_neg (fun h => hs h.1.symm)]; simp
    · show (roD _ s).map (·.txn) = rowT (putN T v.name (q.1, queueN q.2 x)) s
      rw [hroD, List.map_append, hS.ro, (putT _ s).2]
      by_cases hs : s = v.name
      · rw [if_pos hs]
        unfold queueN
        by_cases hi : (aGet q.2.held x).isSome = true
        · rw [if_neg (fun h => h.2 hi), if_pos hi, hs, hRo]; simp
        · rw [if_pos ⟨hs.symm, hi⟩, if_neg hi, hs, hRo]; rfl
      · rw [if_neg hs, if_neg (fun h => hs h.1.symm)]; simp
end
end Go.Proofs.YtakifgecgmdjcaaGreat

/- The document's locks and the table: edges, who has what. -/
namespace Go.Proofs.YtakifgecgmdjcaaGreat
open Go Xf Go.RowKit
set_option linter.unusedVariables false
set_option linter.unusedSimpArgs false
set_option maxRecDepth 100000

section
variable {T : Tb} {D : Rt}
theorem Sim.nodup (hS : Sim T D) : (D.has.map fun r => (r.txn, r.name)).Nodup := by
  have := hS.hk
  unfold Keys1 hasL at this
  rw [List.map_map] at this
  exact this
theorem Sim.held (hS : Sim T D) (x : Int) (p : He) : (∃ r ∈ D.has, r.txn = x ∧ (r.name, r.mode) = p) ↔ p ∈ heldT T x := by
  rw [mem_heldT]
  have h := hS.has x p.1
  constructor
  · rintro ⟨r, hr, rfl, rfl⟩
    have h1 := has_row hS.hk hr
    exact (hS.has r.txn r.name).symm.trans h1
  · intro hp
    rw [hp] at h
    obtain ⟨r, hr, h1, h2, h3⟩ := has_of h
    exact ⟨r, hr, h1, Prod.ext h2 h3⟩
theorem Sim.txns (hS : Sim T D) (hk : Keys1 T.names) (y : Int) : y ∈ D.has.map (·.txn) ++ D.waits.map (·.txn) ↔ TxK T y := by
  rw [List.mem_append, List.mem_map, List.mem_map]
  constructor
  · rintro (⟨r, hr, rfl⟩ | ⟨r, hr, rfl⟩)
    · have h1 := has_row hS.hk hr
      rw [hS.has] at h1
      obtain ⟨q, e1, e2⟩ := hasT_some h1
      exact txk_held e1 (by rw [e2]; rfl)
    · have h1 := wait_row hS.wk hr
      rw [hS.w] at h1
      exact txk_waits h1
  · rintro (h | ⟨p, hp, h⟩)
    · obtain ⟨w, hw⟩ := key_get h
      rw [← hS.w] at hw
      obtain ⟨r, hr, h1, -⟩ := wait_of hw
      exact .inr ⟨r, hr, h1⟩
    · obtain ⟨m, hm⟩ := key_get h
      have : hasT T y p.1 = some m := by rw [hasT_some' (mem_names hk hp)]; exact hm
      have h2 := hS.has y p.1
      rw [show hasT T y p.1 = some m from this] at h2
      obtain ⟨r, hr, h1, -⟩ := has_of h2
      exact .inl ⟨r, hr, h1⟩
theorem ahead_take (hS : Sim T D) {r : Rw} {q : Nat × Nm} (hq : aGet T.names r.name = some q) (hnd : (rowsN q.2).Nodup) {i : Nat} (hi : (rowsN q.2)[i]? = some r.txn) (y : Int) : (∃ a ∈ aheadD D r, a.txn = y) ↔ y ∈ (rowsN q.2).take i := by
  have hrows : (inD D r.name).map (·.txn) = rowsN q.2 := by
    rw [hS.rows]
    unfold turnsT rowT rowsN
    rw [hq]
  obtain ⟨hil, hie⟩ := List.getElem?_eq_some_iff.1 hi
  have htw : (rowsN q.2).takeWhile (fun z => decide (z ≠ r.txn)) = (rowsN q.2).take i := by
    refine takeWhile_take _ (fun z hz => ?_) fun hk => by rw [hie]; simp
    obtain ⟨j, hj, rfl⟩ := List.mem_iff_getElem.1 hz
    rw [List.getElem_take]
    refine decide_eq_true fun he => ?_
    have hj' : j < i := by simpa using Nat.lt_of_lt_of_le hj (List.length_take_le i _)
    have := (List.getElem_inj (h₀ := by omega) (h₁ := hil) hnd).1 (he.trans hie.symm)
    omega
  have hm : (aheadD D r).map (·.txn) = (rowsN q.2).take i := by
    rw [← htw, ← hrows, List.takeWhile_map]
    rfl
  rw [← hm, List.mem_map]
theorem Sim.edge {B : Nat} (hS : Sim T D) (hg : Good T) (hok : okT T B) (e : Ed) : edgeD D e ↔ EdgeT T e := by
  have same : ∀ (r : Rw) (q : Nat × Nm) (i : Nat), r ∈ D.waits → aGet T.names r.name = some q → (rowsN q.2)[i]? = some r.txn → (edgeRow D r e ↔ (e.1 = r.txn ∧ edgeI T.waits q.2 i e)) := fun r q i hr hq hi => by
    have hN := hg.nm' hq
    have hk := (hok.nm _ _ hq).2.2
    have hH : ∀ y, hasT T y r.name = aGet q.2.held y := hasT_some' hq
    have hw := wait_row hS.wk hr
    rw [hS.w] at hw
    have hwant : wantOf T.waits r.txn = r.mode := by unfold wantOf; rw [hw]; rfl
    have hwo : wouldD D r.txn r.name r.mode = wouldN q.2 r.txn r.mode := hS.would hH _ _
    unfold edgeRow edgeHas edgeI
    constructor
    · rintro (⟨h1, h, hh, hoff, h2⟩ | ⟨h1, h2⟩)
      · refine ⟨h1, by rw [h1]; exact hi, .inl ⟨(h.txn, h.mode), ?_, h2, ?_⟩⟩
        · unfold offB at hoff
          rw [Bool.and_eq_true, decide_eq_true_iff] at hoff
          have h3 := has_row hS.hk hh
          rw [hoff.1.2, hS.has, hH] at h3
          exact aGet_mem h3
        · unfold offB at hoff
          rw [Bool.and_eq_true, decide_eq_true_iff] at hoff
          unfold heldE
          rw [h1, hwant, decide_eq_true hoff.1.1, Bool.true_and, ← hwo]
          exact hoff.2
      · exact ⟨h1, by rw [h1]; exact hi, .inr ((ahead_take hS hq hN.nodup hi _).1 h2)⟩
    · rintro ⟨h1, -, ⟨p, hp, h2, h3⟩ | h2⟩
      · refine .inl ⟨h1, ?_⟩
        have hp' : aGet q.2.held p.1 = some p.2 := aGet_of_mem hk hp
        have h4 := hS.has p.1 r.name
        rw [hH, hp'] at h4
        obtain ⟨h, hh, e1, e2, e3⟩ := has_of h4
        refine ⟨h, hh, ?_, by rw [e1, h2]⟩
        unfold heldE at h3
        rw [h1, hwant, Bool.and_eq_true, decide_eq_true_iff] at h3
        unfold offB
        rw [decide_eq_true (⟨by rw [e1]; exact h3.1, e2⟩ : _ ∧ _), Bool.true_and, e3, hwo]
        exact h3.2
      · exact .inr ⟨h1, (ahead_take hS hq hN.nodup hi _).2 h2⟩
  constructor
  · rintro ⟨r, hr, h⟩
    have hw := wait_row hS.wk hr
    rw [hS.w] at hw
    obtain ⟨q, hq, hm⟩ := hg.conv' hw
    have hq : aGet T.names r.name = some q := hq
    obtain ⟨i, hi⟩ := List.getElem?_of_mem hm
    exact ⟨(r.name, q), aGet_mem hq, i, ((same r q i hr hq hi).1 h).2⟩
  · rintro ⟨p, hp, i, h⟩
    have hq := mem_names hok.keys hp
    have hN := hg.nm' hq
    have hm := List.mem_of_getElem? h.1
    obtain ⟨w, e1, e2, -⟩ := hN.rows _ hm
    rw [← hS.w] at e1
    obtain ⟨r, hr, h1, h2⟩ := wait_of e1
    have hn : r.name = p.1 := by rw [← e2, ← h2]; rfl
    refine ⟨r, hr, (same r p.2 i hr (by rw [hn]; exact hq) (by rw [h1]; exact h.1)).2 ⟨h1.symm, h⟩⟩
end
end Go.Proofs.YtakifgecgmdjcaaGreat

/- LockPlays: the grants; a step. -/
namespace Go.Proofs.YtakifgecgmdjcaaGreat
open Go Xf Go.RowKit
set_option linter.unusedVariables false
set_option linter.unusedSimpArgs false
set_option maxRecDepth 100000

section
variable {W w w' : World} {F : List (Nat × Obj)} {T : Tb} {g : Nat} {D : Rt}
theorem sameGrants_spec {v1 v2 : Value} {l : List Rw} (h1 : RdS w grV 3 v1 (grsOf l)) (h2 : RdS w rwV 4 v2 l) (hl : l.length ≤ 1000000000) :
    CallsR Tryz.prog 28 #[v1, v2] w fun u w' => u = .bool true ∧ Upd w w' [] := by
  apply flotillalaw13_sameGrants_sound
  unfold flotillalaw13_sameGrants_x flotillalaw13_sameGrants_k1
  have hll : (grsOf l).length = l.length := List.length_map _
  obtain ⟨A1, c1, hA1, -⟩ := id h1
  obtain ⟨A2, c2, hA2, -⟩ := id h2
  rw [hll] at hA1
  have hlen1 : ∀ {w K}, (std Tryz.prog).step (sBuiltin .len #[50] 3 [false] [v1]) w K = K (.int .i64 (l.length : Nat)) w := by rw [hA1]; intro w K; simp (disch := first | assumption | omega) only [PX]
  have hlen2 : ∀ {w K}, (std Tryz.prog).step (sBuiltin .len #[25] 3 [false] [v2]) w K = K (.int .i64 (l.length : Nat)) w := by rw [hA2]; intro w K; simp (disch := first | assumption | omega) only [PX]
  rw [hlen1, hlen2]
  simp (disch := first | assumption | omega) only [PX, BX]
  refine ⟨fun h => absurd rfl h, fun _ => ?_⟩
  refine st_loop (fun vs w' => ∃ i : Nat, i ≤ l.length ∧ vs.getD 1 undef = .int .i64 i ∧ Upd w w' []) (fun vs _ => l.length - (intOf (vs.getD 1 undef)).toNat) ⟨0, Nat.zero_le _, rfl, Upd.refl _ _⟩ ?_
  rintro dv vs w1 - ⟨i, hi, e1, hU⟩
  rw [hlen1, e1]
  simp (disch := first | assumption | omega) only [PX, BX]
  refine ⟨fun hlt => ?_, fun hge => ⟨trivial, hU⟩⟩
  have hi' : i < l.length := by omega
  have hi1 : i < (grsOf l).length := by omega
  have hgi : (grsOf l)[i] = grOf l[i] := List.getElem_map grOf
  obtain ⟨a1, c1', q1, hc1⟩ := gr_at h1 hi1
  obtain ⟨a2, c2', q2, hc2⟩ := rw_at h2 hi'
  have hUd := hU.trans (Upd.drew w1 [])
  have hne : ∃ w', (fun w' => Upd w w' []) w' := ⟨_, hUd⟩
  refine st_draw (fun w' => Upd w w' []) hUd ?_
  have p0 : ∀ w', Upd w w' [] → w'.cell? (a1.add (i * 3 + 0)) = some (.int .i64 l[i].txn) := fun w' h => by have := (hc1 w' h).1; rw [hgi] at this; exact this
  have p1 : ∀ w', Upd w w' [] → w'.cell? (a1.add (i * 3 + 1 + 0)) = some (strV l[i].name) := fun w' h => by have := (hc1 w' h).2.1; rw [hgi] at this; exact this
  have p2 : ∀ w', Upd w w' [] → w'.cell? (a1.add (i * 3 + 1 + 1)) = some (.int .i64 l[i].mode) := fun w' h => by have := (hc1 w' h).2.2; rw [hgi] at this; exact this
  have r0 : ∀ w', Upd w w' [] → w'.cell? (a2.add (i * 4 + 0)) = some (.int .i64 l[i].txn) := fun w' h => (hc2 w' h).1
  have r1 : ∀ w', Upd w w' [] → w'.cell? (a2.add (i * 4 + 1)) = some (strV l[i].name) := fun w' h => (hc2 w' h).2.1
  have r2 : ∀ w', Upd w w' [] → w'.cell? (a2.add (i * 4 + 2)) = some (.int .i64 l[i].mode) := fun w' h => (hc2 w' h).2.2.1
  have x1 : ∀ {S : World → Prop} {k : Value → Prop}, (∃ w, S w) → (std Tryz.prog).stepS S (sIndexAddr 50 v1 (.int .i64 (i : Nat))) k = k (.pointer (some (a1.add (i * 3)))) := fun hne => by rw [q1]; exact sx_ix50 hi1 hne
  have x2 : ∀ {S : World → Prop} {k : Value → Prop}, (∃ w, S w) → (std Tryz.prog).stepS S (sIndexAddr 25 v2 (.int .i64 (i : Nat))) k = k (.pointer (some (a2.add (i * 4)))) := fun hne => by rw [q2]; exact sx_ix25 hi' hne
  clear hc1 hc2
  simp (disch := first | exact hne | assumption | omega) only [x1, x2, SX, SLX, add_add', mk_inj]
  rw [bool_dec]
  refine ⟨fun h => absurd rfl h, fun _ => ?_⟩
  rw [bool_var]
  refine ⟨fun h => by simp at h, fun _ => ?_⟩
  rw [bool_dec]
  refine ⟨fun h => absurd rfl h, fun _ => ?_⟩
  simp (disch := omega) only [e1, PX, w64]
  refine ⟨⟨i + 1, by omega, rfl, hUd⟩, ?_⟩
  simp only [List.getD_cons_succ, List.getD_cons_zero, intOf]; omega
end
end Go.Proofs.YtakifgecgmdjcaaGreat

/- LockPlays: the table and the document's, in memory together; a step. -/
namespace Go.Proofs.YtakifgecgmdjcaaGreat
open Go Xf Go.RowKit
set_option linter.unusedVariables false
set_option linter.unusedSimpArgs false
set_option maxRecDepth 100000

section
variable {W w w' w1 : World} {F : List (Nat × Obj)} {T : Tb} {g : Nat} {D : Rt} {vh vw : Value}
/-- what is read lies in blocks of F -/
def Sits {α : Type} (F : List (Nat × Obj)) (u : Value) (l : List α) : Prop := l = [] ∨ ∃ b o, u.ownBlock = some b ∧ (b, o) ∈ F
theorem Sits.mono {α : Type} {G : List (Nat × Obj)} {u : Value} {l : List α} (h : Sits F u l) (hs : F.Sublist G) : Sits G u l := h.imp id fun ⟨b, o, h1, h2⟩ => ⟨b, o, h1, hs.mem h2⟩
theorem RdS.sits {α : Type} {f : α → List Value} {k : Nat} {u : Value} {l : List α} (hr : RdS w f k u l) (hs : Sits F u l) (hO : Owns w F) (hO' : Owns w' F) : RdS w' f k u l := by
  obtain ⟨A0, c0, rfl, hm, A1, c1, q1, h4, h5, h6⟩ := hr
  injection q1 with q1 q2 q3
  subst q1 q3
  refine ⟨_, _, rfl, hm, _, _, rfl, h4, h5, fun j u hu => ?_⟩
  rcases hs with rfl | ⟨b, o, hb, ho⟩
  · simp at hu
  · obtain ⟨a, rfl, hc⟩ := h6 j u hu
    refine ⟨a, rfl, ?_⟩
    injection hb with hb
    rw [World.cell?_of_block (w := w) (w' := w')]
    · exact hc
    · rw [block_add, hb, hO'.2 _ ho, hO.2 _ ho]
theorem sit1 {α : Type} {f : α → List Value} {k n : Nat} {u : Value} {l : List α} {h : List (Nat × Obj)} (hk : 0 < k) (hO1 : Owns w1 (h ++ F)) (hlt : ∀ p ∈ h, p.1 < n) (hr : RdS w1 f k u l) (hf : ∀ b, u.ownBlock = some b → n ≤ b) : ∃ F', F.Sublist F' ∧ Owns w1 (h ++ F') ∧ Sits F' u l := by
  cases l with
  | nil => exact ⟨F, List.Sublist.refl _, hO1, .inl rfl⟩
  | cons y l =>
    obtain ⟨A0, c0, rfl, hm, A1, c1, q1, h4, h5, h6⟩ := hr
    injection q1 with q1 q2 q3
    subst q1 q3
    have hpos : 0 < ((y :: l).flatMap f).length := by rw [h5, List.length_cons]; exact Nat.mul_pos (Nat.succ_pos _) hk
    obtain ⟨a, rfl, hc⟩ := h6 0 _ (List.getElem?_eq_getElem hpos)
    by_cases hin : ∃ o, (a.block, o) ∈ F
    · obtain ⟨o, ho⟩ := hin
      exact ⟨F, List.Sublist.refl _, hO1, .inr ⟨_, o, rfl, ho⟩⟩
    · obtain ⟨o, ho⟩ : ∃ o, w1.heap[a.block]? = some o := by
        have hl := World.block_lt_of_cell? w1 _ hc
        rw [block_add] at hl
        exact ⟨_, Array.getElem?_eq_getElem hl⟩
      refine ⟨(a.block, o) :: F, List.sublist_cons_self .., ⟨?_, fun p hp => ?_⟩, .inr ⟨_, o, rfl, List.mem_cons_self ..⟩⟩
      · have hn : a.block ∉ (h ++ F).map (·.1) := fun hm => by
          obtain ⟨p, hp, he⟩ := List.mem_map.1 hm
          rcases List.mem_append.1 hp with hp | hp
          · have := hlt p hp; have := hf _ rfl; omega
          · exact hin ⟨p.2, by rw [← he]; exact hp⟩
        have hnd := hO1.1
        have hperm : ((a.block, o) :: (h ++ F)).Perm (h ++ (a.block, o) :: F) := List.perm_middle.symm
        exact (hperm.map (·.1)).nodup_iff.1 (List.nodup_cons.2 ⟨hn, hnd⟩)
      · rcases List.mem_append.1 hp with hp | hp
        · exact hO1.2 p (List.mem_append_left _ hp)
        · rcases List.mem_cons.1 hp with rfl | hp
          · exact ho
          · exact hO1.2 p (List.mem_append_right _ hp)
structure TDat (W : World) (F : List (Nat × Obj)) (T : Tb) (g : Nat) (vh vw : Value) (D : Rt) (w : World) : Prop where
  tb : TbAt W [] F T g w
  rh : RdS w rwV 4 vh D.has
  rw_ : RdS w rwV 4 vw D.waits
  sh : Sits F vh D.has
  sw : Sits F vw D.waits
theorem TDat.tab (h : TDat W F T g vh vw D w) : RdT w (rtV vh vw) D := ⟨vh, vw, rfl, h.rh, h.rw_⟩
theorem TDat.upd (h : TDat W F T g vh vw D w) (hU : Upd w w' []) : TDat W F T g vh vw D w' := ⟨h.tb.upd hU, h.rh.mono hU, h.rw_.mono hU, h.sh, h.sw⟩
/-- the table went on -/
theorem TDat.on {T' : Tb} (h : TDat W F T g vh vw D w) (h' : TbAt W [] F T' g w') : TDat W F T' g vh vw D w' := ⟨h', h.rh.sits h.sh h.tb.owns h'.owns, h.rw_.sits h.sw h.tb.owns h'.owns, h.sh, h.sw⟩
theorem sits_same {α β : Type} {f : α → List Value} {f' : β → List Value} {k k' : Nat} {u : Value} {l : List α} {l' : List β} (h1 : RdS w f k u l) (h2 : RdS w' f' k' u l') (hs : Sits F u l) : Sits F u l' := by
  rcases hs with rfl | h
  · obtain ⟨A, c, rfl, -⟩ := h1
    obtain ⟨A', c', q, -⟩ := h2
    injection q with _ q _
    exact .inl (List.eq_nil_of_length_eq_zero q.symm)
  · exact .inr h
/-- the document's table went on -/
theorem TDat.claim {vh' vw' : Value} {D' : Rt} (h : TDat W F T g vh vw D w) (hU : Upd w w1 []) (h1 : vh' = vh ∨ Fresh w vh') (h2 : vw' = vw ∨ Fresh w vw') (hr : RdT w1 (rtV vh' vw') D') : ∃ F', F.Sublist F' ∧ TDat W F' T g vh' vw' D' w1 := by
  obtain ⟨uh, uw, he, rh, rw_⟩ := hr
  unfold rtV at he
  simp only [Value.agg.injEq, Array.mk.injEq, List.cons.injEq, and_true] at he
  obtain ⟨rfl, rfl⟩ := he
  obtain ⟨hUW, hb, hT, hO, hm⟩ := h.tb
  have hO1 := hO.ext hU
  have hlt : ∀ p ∈ hb, p.1 < w.heap.size := fun p hp => hO.lt (List.mem_append_left _ hp)
  obtain ⟨F1, s1, o1, t1⟩ : ∃ F1, F.Sublist F1 ∧ Owns w1 (hb ++ F1) ∧ Sits F1 vh' D'.has := by
    rcases h1 with rfl | h1
    · exact ⟨F, List.Sublist.refl _, hO1, sits_same h.rh rh h.sh⟩
    · exact sit1 (by decide) hO1 hlt rh h1
  obtain ⟨F2, s2, o2, t2⟩ : ∃ F2, F1.Sublist F2 ∧ Owns w1 (hb ++ F2) ∧ Sits F2 vw' D'.waits := by
    rcases h2 with rfl | h2
    · exact ⟨F1, List.Sublist.refl _, o1, sits_same h.rw_ rw_ (h.sw.mono s1)⟩
    · exact sit1 (by decide) o1 hlt rw_ h2
  exact ⟨F2, s1.trans s2, ⟨hUW.then_ hU (fun x hx => by cases hx), hb, hT, o2, hm⟩, rh, rw_, t1.mono s2, t2⟩
/-- the same, with boxes beside, and one list more -/
theorem claimG {G : List (Nat × Obj)} {vh' vw' vo : Value} {D' : Rt} {lo : List Rw} (hT : TbAt W [] (G ++ F) T g w) (h : TDat W F T g vh vw D w) (hU : Upd w w1 []) (h1 : vh' = vh ∨ Fresh w vh') (h2 : vw' = vw ∨ Fresh w vw') (hr : RdT w1 (rtV vh' vw') D') (hro : RdS w1 rwV 4 vo lo) (hfo : Fresh w vo) :
    ∃ F', F.Sublist F' ∧ TbAt W [] (G ++ F') T g w1 ∧ TDat W F' T g vh' vw' D' w1 ∧ Sits F' vo lo := by
  obtain ⟨uh, uw, he, rh, rw_⟩ := hr
  unfold rtV at he
  simp only [Value.agg.injEq, Array.mk.injEq, List.cons.injEq, and_true] at he
  obtain ⟨rfl, rfl⟩ := he
  obtain ⟨hUW, hb, hTb, hO, hm⟩ := hT
  rw [← List.append_assoc] at hO
  have hO1 := hO.ext hU
  have hlt : ∀ p ∈ hb ++ G, p.1 < w.heap.size := fun p hp => hO.lt (List.mem_append_left _ hp)
  obtain ⟨F1, s1, o1, t1⟩ : ∃ F1, F.Sublist F1 ∧ Owns w1 ((hb ++ G) ++ F1) ∧ Sits F1 vh' D'.has := by
    rcases h1 with rfl | h1
    · exact ⟨F, List.Sublist.refl _, hO1, sits_same h.rh rh h.sh⟩
    · exact sit1 (by decide) hO1 hlt rh h1
  obtain ⟨F2, s2, o2, t2⟩ : ∃ F2, F1.Sublist F2 ∧ Owns w1 ((hb ++ G) ++ F2) ∧ Sits F2 vw' D'.waits := by
    rcases h2 with rfl | h2
    · exact ⟨F1, List.Sublist.refl _, o1, sits_same h.rw_ rw_ (h.sw.mono s1)⟩
    · exact sit1 (by decide) o1 hlt rw_ h2
  obtain ⟨F3, s3, o3, t3⟩ := sit1 (by decide) o2 hlt hro hfo
  rw [List.append_assoc] at o3
  have hTB : TbAt W [] (G ++ F3) T g w1 := ⟨hUW.then_ hU (fun x hx => by cases hx), hb, hTb, o3, hm⟩
  exact ⟨F3, (s1.trans s2).trans s3, hTB, ⟨hTB.weak (List.sublist_append_right _ _), rh, rw_, (t1.mono s2).mono s3, t2.mono s3⟩, t3⟩
theorem TDat.weak {G : List (Nat × Obj)} (h : TDat W F T g vh vw D w) (hs : G.Sublist F) (sh : Sits G vh D.has) (sw : Sits G vw D.waits) : TDat W G T g vh vw D w := ⟨h.tb.weak hs, h.rh, h.rw_, sh, sw⟩
end
end Go.Proofs.YtakifgecgmdjcaaGreat

/- LockPlays: a step. -/
namespace Go.Proofs.YtakifgecgmdjcaaGreat
open Go Xf Go.RowKit
set_option linter.unusedVariables false
set_option linter.unusedSimpArgs false
set_option maxRecDepth 100000

section
variable {W w w' w1 : World} {F : List (Nat × Obj)} {T : Tb} {g : Nat} {D : Rt} {vh vw : Value}
def StepQ (W : World) (F : List (Nat × Obj)) (T : Tb) (D : Rt) (g : Nat) (o : LOp) (u : Value) (w' : World) : Prop :=
  ∃ T' D' vh' vw' F', u = .tuple #[rtV vh' vw', .bool true] ∧ F.Sublist F' ∧ TDat W F' T' g vh' vw' D' w' ∧ Sim T' D' ∧ (∃ new, T' = stepT T new o) ∧ D'.has.length + D'.waits.length ≤ D.has.length + D.waits.length + 1
def nilBx (b : Nat) : Nat × Obj := tabBx b (.slice none 0 0) (.slice none 0 0)
theorem TDat.ones (h : TDat W F T g vh vw D w) : ∀ u ∈ [vh, vw], u.oneCell' = true := fun u hu => by
  simp only [List.mem_cons, List.not_mem_nil, or_false] at hu
  rcases hu with rfl | rfl
  · exact rdS_one h.rh
  · exact rdS_one h.rw_
/-- who goes, or cancels -/
theorem step_gone {b4 b5 b6 : Nat} {o : LOp} {all : Bool} {B fn : Nat} (hfn : ∀ {w : World} {F : List (Nat × Obj)} {T : Tb}, TbAt W [] F T g w → okT T B → CallsR Tryz.prog fn #[.pointer (some ⟨g, 0, none⟩), .int .i64 o.txn] w fun u w' => GonePost W [] F (goneT T o.txn all).2 (goneT T o.txn all).1 g u w')
    (hT : TbAt W [] ([nilBx b6, opBx b5 o, tabBx b4 vh vw] ++ F) T g w) (hD : TDat W F T g vh vw D w) (hfine : Fine T B) (hB : B ≤ 500) (hS : Sim T D) (hsz : D.has.length + D.waits.length ≤ 400) (hb6 : W.heap.size ≤ b6) (hst : ∀ new, (goneT T o.txn all).1 = stepT T new o) :
  (std Tryz.prog).step (sLoad 27 (.pointer (some ⟨b4, 0, none⟩))) w fun v52_1 w =>
  (std Tryz.prog).step (sLoad 3 (.pointer (some ⟨b5, 1, none⟩))) w fun v54_1 w =>
  (std Tryz.prog).calls 27 #[v52_1, v54_1, (.bool all)] w fun v55_1 w =>
  (std Tryz.prog).step (sExtract v55_1 0) w fun v56_1 w =>
  (std Tryz.prog).step (sExtract v55_1 1) w fun v57_1 w =>
  (std Tryz.prog).step (sAlloc 27) w fun v13_1 w =>
  (std Tryz.prog).step (sStore 27 v13_1 v56_1) w fun vx_4 w =>
  (std Tryz.prog).draw w fun S_1 w =>
  (std Tryz.prog).stepS S_1 (sLoad 27 v13_1) fun v58_1 =>
  (std Tryz.prog).stepS S_1 (sFieldAddr 33 (.pointer (some ⟨b5, 0, none⟩)) 1) fun v60_1 =>
  (std Tryz.prog).stepS S_1 (sLoad 3 v60_1) fun v61_1 =>
  (std Tryz.prog).calls fn #[.pointer (some ⟨g, 0, none⟩), v61_1] w fun v62_1 w =>
  (std Tryz.prog).keepS S_1 w fun S_2 =>
  (std Tryz.prog).calls 28 #[v62_1, v57_1] w fun v64_1 w =>
  (std Tryz.prog).keepS S_2 w fun S_3 =>
  (std Tryz.prog).step (sStore 27 (.pointer (some ⟨b6, 0, none⟩)) v58_1) w fun vx_5 w =>
  (std Tryz.prog).keepT w fun S_4 =>
  (std Tryz.prog).loadR 27 (.pointer (some ⟨b6, 0, none⟩)) w fun r_3 =>
  StepQ W F T D g o (.tuple #[r_3, v64_1]) w := by
  have m4 : tabBx b4 vh vw ∈ [nilBx b6, opBx b5 o, tabBx b4 vh vw] ++ F := by simp
  have m5 : opBx b5 o ∈ [nilBx b6, opBx b5 o, tabBx b4 vh vw] ++ F := by simp
  rw [step_run (run_sLoad (tab_cells (hT.at_ m4)).2.2)]
  obtain ⟨-, c1, -, -⟩ := op_cells (hT.at_ m5)
  simp (disch := first | assumption | omega) only [PX, LX, add_mk, Nat.reduceAdd]
  refine st_call (rGone_spec hD.tab (by omega) o.txn all) ?_
  rintro _ w1 ⟨names, hN, out, D', vh', vw', vo, rfl, hf1, hf2, hr, hro, hGT, hU1, hol, hfo⟩
  obtain ⟨F', hs, hT1, hD1, hso⟩ := claimG hT hD hU1 hf1 hf2 hr hro hfo
  obtain ⟨hS', hgr, hszl⟩ := goneT_sim hS hfine.good hfine.ok o.txn all hN hGT
  simp (disch := first | assumption | omega) only [PX]
  refine st_talloc ze_tab hT1 ?_
  intro b13 w2 hT2 hb13
  refine st_tstoreN (vs := [vh', vw']) (by rw [sz27]; rfl) hT2 rfl hD1.ones (.inr hb13) ?_
  intro w3 hT3
  have hT3 : TbAt W [] (tabBx b13 vh' vw' :: ([nilBx b6, opBx b5 o, tabBx b4 vh vw] ++ F')) T g w3 := hT3
  have hsub : F'.Sublist (tabBx b13 vh' vw' :: ([nilBx b6, opBx b5 o, tabBx b4 vh vw] ++ F')) := (List.sublist_append_right _ _).trans (List.sublist_cons_self ..)
  have hD3 := hD1.on (hT3.weak hsub)
  have hro3 := hro.sits hso hD1.tb.owns hD3.tb.owns
  let S : World → Prop := fun w' => w'.heap[b13]? = some (tabBx b13 vh' vw').2 ∧ w'.heap[b5]? = some (opBx b5 o).2
  have hSof : ∀ {w' : World} {T' : Tb} {G : List (Nat × Obj)}, TbAt W [] (G ++ (tabBx b13 vh' vw' :: ([nilBx b6, opBx b5 o, tabBx b4 vh vw] ++ F'))) T' g w' → S w' := fun {w' T' G} h => by
    have n13 : tabBx b13 vh' vw' ∈ G ++ (tabBx b13 vh' vw' :: ([nilBx b6, opBx b5 o, tabBx b4 vh vw] ++ F')) := by simp
    have n5 : opBx b5 o ∈ G ++ (tabBx b13 vh' vw' :: ([nilBx b6, opBx b5 o, tabBx b4 vh vw] ++ F')) := by simp
    exact ⟨h.at_ n13, h.at_ n5⟩
  have hTd := hT3.upd (Upd.drew w3 [])
  have hDd := hD3.upd (Upd.drew w3 [])
  have hrod := hro3.mono (Upd.drew w3 [])
  have hne : ∃ w', S w' := ⟨_, hSof (G := []) hTd⟩
  refine st_draw S (hSof (G := []) hTd) ?_
  have k1 : ∀ w', S w' → w'.cell? ⟨b5, 1, none⟩ = some (.int .i64 o.txn) := fun w' h => (op_cells h.2).2.1
  rw [stepS_run hne fun w' hs => run_sLoad (tab_cells hs.1).2.2]
  simp (disch := first | exact hne | assumption | omega) only [SX, SLX, add_mk, Nat.reduceAdd]
  refine st_call (hfn hTd hfine.ok) ?_
  rintro v62 w4 ⟨hl, hrg, hT4, -⟩
  rw [hgr] at hrg
  have hD4 : TDat W F' (goneT T o.txn all).1 g vh' vw' D' w4 := hDd.on (hT4.weak (hsub.trans (List.sublist_append_right _ _)))
  have hro4 := hrod.sits hso hDd.tb.owns hD4.tb.owns
  refine st_same (hSof hT4) ?_
  have hgl : (grsOf out).length = out.length := List.length_map _
  refine st_call (sameGrants_spec (hT4.rdGr hrg (fun p hp => List.mem_append_left _ hp) (by omega)) hro4 (by omega)) ?_
  rintro _ w5 ⟨rfl, hU5⟩
  have hT5 := hT4.upd hU5
  have hD5 := hD4.upd hU5
  refine st_same (hSof hT5) ?_
  have hT5' : TbAt W [] (nilBx b6 :: ([opBx b5 o, tabBx b4 vh vw] ++ F')) (goneT T o.txn all).1 g w5 := hT5.weak ((List.sublist_cons_self ..).trans (List.sublist_append_right _ _))
  refine st_tstoreN (vs := [vh', vw']) (by rw [sz27]; rfl) hT5' rfl hD1.ones (.inr hb6) ?_
  intro w6 hT6
  have hT6 : TbAt W [] (tabBx b6 vh' vw' :: ([opBx b5 o, tabBx b4 vh vw] ++ F')) (goneT T o.txn all).1 g w6 := hT6
  refine st_keepT (fun _ => True) trivial ?_
  refine st_loadR (tab_cells (hT6.at_ (List.mem_cons_self ..))).2.2 ?_
  have hsub6 : F'.Sublist (tabBx b6 vh' vw' :: ([opBx b5 o, tabBx b4 vh vw] ++ F')) := (List.sublist_append_right _ _).trans (List.sublist_cons_self ..)
  exact ⟨_, D', vh', vw', F', rfl, hs, hD5.on (hT6.weak hsub6), hS', ⟨0, hst 0⟩, by omega⟩
theorem step_spec {B : Nat} {o : LOp} (hD : TDat W F T g vh vw D w) (hfine : Fine T B) (hB : B ≤ 500) (hS : Sim T D) (hsz : D.has.length + D.waits.length ≤ 400) (hs : shortB o = true) :
    CallsR Tryz.prog 9 #[.pointer (some ⟨g, 0, none⟩), rtV vh vw, .agg (opV o).toArray] w (StepQ W F T D g o) := by
  apply flotillalaw13_step_sound
  unfold flotillalaw13_step_x
  have hnl : o.want.name.length ≤ 1000 := by unfold shortB at hs; simpa using hs
  refine st_tbox hD.tb ?_
  intro b4 w1 hT1 hb4
  refine st_tbox hT1 ?_
  intro b5 w2 hT2 hb5
  refine st_talloc ze_tab hT2 ?_
  intro b6 w3 hT3 hb6
  have hT3 : TbAt W [] ([nilBx b6, opBx b5 o, tabBx b4 vh vw] ++ F) T g w3 := hT3
  have hD3 := hD.on (hT3.weak (List.sublist_append_right _ _))
  have m4 : tabBx b4 vh vw ∈ [nilBx b6, opBx b5 o, tabBx b4 vh vw] ++ F := by simp
  have m5 : opBx b5 o ∈ [nilBx b6, opBx b5 o, tabBx b4 vh vw] ++ F := by simp
  obtain ⟨c0, c1, c2, c3⟩ := op_cells (hT3.at_ m5)
  have hopw := op_boxwant (hT3.at_ m5)
  simp (disch := first | assumption | omega) only [PX, BX, LX, add_mk, Nat.reduceAdd]
  refine ⟨fun h0 => ?_, fun h0 => ⟨fun h1 => ?_, fun h1 => ⟨fun h2 => ?_, fun h2 => ?_⟩⟩⟩
  · rw [step_run (run_sLoad (tab_cells (hT3.at_ m4)).2.2)]
    simp (disch := first | assumption | omega) only [PX, LX]
    rw [step_run (run_sLoad hopw)]
    refine st_call (rAsk_spec hD3.tab (by omega) (by omega) o.txn o.want (by omega)) ?_
    rintro _ w4 ⟨vh', vw', rfl, hf1, hf2, hr, hU4⟩
    obtain ⟨F', hs', hT4, hD4, -⟩ := claimG (vo := .slice none 0 0) (lo := []) hT3 hD3 hU4 hf1 hf2 hr ⟨none, 0, rfl, Nat.zero_le _, Rd.nil_ _ _⟩ (fun b hb => by cases hb)
    simp (disch := first | assumption | omega) only [PX]
    refine st_talloc ze_tab hT4 ?_
    intro b8 w5 hT5 hb8
    refine st_tstoreN (vs := [vh', vw']) (by rw [sz27]; rfl) hT5 rfl hD4.ones (.inr hb8) ?_
    intro w6 hT6
    have hT6 : TbAt W [] (tabBx b8 vh' vw' :: ([nilBx b6, opBx b5 o, tabBx b4 vh vw] ++ F')) T g w6 := hT6
    have hsub : F'.Sublist (tabBx b8 vh' vw' :: ([nilBx b6, opBx b5 o, tabBx b4 vh vw] ++ F')) := (List.sublist_append_right _ _).trans (List.sublist_cons_self ..)
    have hD6 := hD4.on (hT6.weak hsub)
    have n5 : opBx b5 o ∈ tabBx b8 vh' vw' :: ([nilBx b6, opBx b5 o, tabBx b4 vh vw] ++ F') := by simp
    obtain ⟨-, c1, -, -⟩ := op_cells (hT6.at_ n5)
    simp (disch := first | assumption | omega) only [PX, LX]
    rw [step_run (run_sLoad (op_boxwant (hT6.at_ n5)))]
    refine st_call (Ask_spec hT6 _ _ (ask_small hfine.ok hB _) (by omega)) ?_
    rintro _ w7 ⟨new, rfl, hT7⟩
    obtain ⟨a1, a2, a3, a4⟩ := askT_sim hS hfine.good hfine.ok new o.txn o.want
    unfold askV
    rw [a2, a3]
    simp (disch := first | assumption | omega) only [PX]
    rw [step_run (run_sLoad (tab_cells (hT7.at_ (List.mem_cons_self ..))).2.2)]
    have hD7 := hD6.on (hT7.weak hsub)
    have ht : ((askD D o.txn o.want).2.1 == (askD D o.txn o.want).2.1) = true := by simp
    rw [ht]
    simp only [BX]
    have hT7' : TbAt W [] (nilBx b6 :: ([opBx b5 o, tabBx b4 vh vw] ++ F')) (askT T new o.txn o.want).1 g w7 := hT7.weak (List.sublist_cons_self ..)
    refine st_tstoreN (vs := [vh', vw']) (by rw [sz27]; rfl) hT7' rfl hD4.ones (.inr hb6) ?_
    intro w8 hT8
    have hT8 : TbAt W [] (tabBx b6 vh' vw' :: ([opBx b5 o, tabBx b4 vh vw] ++ F')) (askT T new o.txn o.want).1 g w8 := hT8
    refine st_loadR (tab_cells (hT8.at_ (List.mem_cons_self ..))).2.2 ?_
    have hsub6 : F'.Sublist (tabBx b6 vh' vw' :: ([opBx b5 o, tabBx b4 vh vw] ++ F')) := (List.sublist_append_right _ _).trans (List.sublist_cons_self ..)
    exact ⟨_, _, vh', vw', F', rfl, hs', hD7.on (hT8.weak hsub6), a1, ⟨new, by unfold stepT; rw [if_pos h0]⟩, a4⟩
  · exact step_gone (all := true) (B := B) (fun h hok => Free_spec h hok hB o.txn) hT3 hD3 hfine hB hS hsz hb6 fun new => by unfold stepT; rw [if_neg h0, if_pos h1]
  · exact step_gone (all := false) (B := B) (fun h hok => Cancel_spec h hok hB o.txn) hT3 hD3 hfine hB hS hsz hb6 fun new => by unfold stepT; rw [if_neg h0, if_neg h1, if_pos h2]
  · rw [step_run (run_sLoad (tab_cells (hT3.at_ m4)).2.2)]
    have hT3' : TbAt W [] (nilBx b6 :: ([opBx b5 o, tabBx b4 vh vw] ++ F)) T g w3 := hT3
    refine st_tstoreN (vs := [vh, vw]) (by rw [sz27]; rfl) hT3' rfl hD3.ones (.inr hb6) ?_
    intro w8 hT8
    have hT8 : TbAt W [] (tabBx b6 vh vw :: ([opBx b5 o, tabBx b4 vh vw] ++ F)) T g w8 := hT8
    refine st_loadR (tab_cells (hT8.at_ (List.mem_cons_self ..))).2.2 ?_
    have hsub6 : F.Sublist (tabBx b6 vh vw :: ([opBx b5 o, tabBx b4 vh vw] ++ F)) := (List.sublist_append_right _ _).trans (List.sublist_cons_self ..)
    exact ⟨T, D, vh, vw, F, rfl, List.Sublist.refl _, hD3.on (hT8.weak hsub6), hS, ⟨0, by unfold stepT; rw [if_neg h0, if_neg h1, if_neg h2]⟩, by omega⟩
end
end Go.Proofs.YtakifgecgmdjcaaGreat

/- LockPlays: alike. -/
namespace Go.Proofs.YtakifgecgmdjcaaGreat
open Go Xf Go.RowKit
set_option linter.unusedVariables false
set_option linter.unusedSimpArgs false
set_option maxRecDepth 100000

theorem eqIn_want (a : Wt) (w : World) : (Op.equalIn 10000 31 (wtV a) (wtV a)).run Tryz.prog w = .ok true w := by
  have u3 := Tryz.underlying29
  have a3 := Tryz.isAgg29
  have z3 := Tryz.sizeOf29
  have u9 := Tryz.underlying9
  have a9 := Tryz.isAgg9
  have z9 := Tryz.sizeOf9
  have hS : Tryz.prog.underlying 31 = some (.struct (Tryz.prog.fieldsOf 31)) := by kernel_rfl
  have hp : Tryz.prog.stoodInHeld 31 = false := by kernel_rfl
  have he : ((⟨a.1.toArray⟩ : ByteArray) == ⟨a.1.toArray⟩ && a.2 == a.2) = true := by
    rw [bytes_beq]
    simp
  rw [← he]
  unfold wtV strV
  rw [show (10000 : Nat) = 9999 + 1 from rfl, run_equalIn_agg w 9999 31 _ _ hS hp]
  simp only [Program.fieldsOf, Tryz.underlying31]
  go_simp
  rw [bytes_beq]
  simp
theorem hm_want : Tryz.prog.eqGuardType Tryz.prog.depth 31 = false := by kernel_rfl
theorem eq_want (x y : Operand) (a : Wt) (w : World) : (sBin .eql 31 x y (wtV a) (wtV a)).run Tryz.prog w = .ok (.value (.bool true)) w := by
  have := eqIn_want a w
  unfold wtV at this ⊢
  simp only [sBin, run_sV, Sem.run_bind, run_eqGuard_agg w .eql 31 x y _ _ hm_want, Result.andThen_ok, run_eql_struct, this]
theorem heLt_as (a b : He) (h1 : heLt a b) (h2 : heLt b a) : False := List.lt_irrefl _ (List.lt_trans h1 h2)
section
variable {W w w' w1 : World} {F : List (Nat × Obj)} {T : Tb} {g : Nat} {D : Rt} {vh vw : Value}
theorem rdIn {v : Value} {l : List Int} (h : RdS w inV 1 v l) : Rd w 1 v l.length (intsV .i64 l) := by
  obtain ⟨A0, c0, rfl, hm, hrd⟩ := h
  have e : l.flatMap inV = intsV .i64 l := by
    unfold intsV inV
    rw [← List.map_eq_flatMap]
  rw [e] at hrd
  exact hrd
theorem alike_spec {B : Nat} (hD : TDat W F T g vh vw D w) (hfine : Fine T B) (hB : B ≤ 500) (hS : Sim T D) (hsz : D.has.length + D.waits.length ≤ 400) (x : Int) :
    CallsR Tryz.prog 10 #[.pointer (some ⟨g, 0, none⟩), rtV vh vw, .int .i64 x] w fun u w' => u = .bool true ∧ TDat W F T g vh vw D w' := by
  apply flotillalaw13_alike_sound
  unfold flotillalaw13_alike_x
  refine st_tbox hD.tb ?_
  intro b4 w1 hT1 hb4
  have hT1 : TbAt W [] (tabBx b4 vh vw :: F) T g w1 := hT1
  refine st_call (Waits_spec hT1 x) ?_
  rintro _ w2 ⟨rfl, hT2⟩
  generalize hwt : (aGet T.waits x).getD ⟨[], 0⟩ = wt
  generalize his : (aGet T.waits x).isSome = is
  simp (disch := first | assumption | omega) only [PX]
  refine st_talloc ze_want hT2 ?_
  intro b7 w3 hT3 hb7
  refine st_tstoreN (vs := [strV wt.name, .int .i64 wt.mode]) (by rw [sz31]; rfl) hT3 rfl (by simp [Value.oneCell']) (.inr hb7) ?_
  intro w4 hT4
  have hT4 : TbAt W [] (wtBx b7 wt :: tabBx b4 vh vw :: F) T g w4 := hT4
  have m4 : tabBx b4 vh vw ∈ wtBx b7 wt :: tabBx b4 vh vw :: F := by simp
  rw [step_run (run_sLoad (tab_cells (hT4.at_ m4)).2.2)]
  have hs4 : F.Sublist (wtBx b7 wt :: tabBx b4 vh vw :: F) := (List.sublist_cons_self ..).trans (List.sublist_cons_self ..)
  have hD4 := hD.on (hT4.weak hs4)
  refine st_call (rWaits_spec hD4.tab x) ?_
  rintro _ w5 ⟨rfl, hU5⟩
  rw [show wOf D x = aGet T.waits x from (wOf_eq D x).trans (hS.w x), hwt, his]
  have hT5 := hT4.upd hU5
  have hD5 := hD4.upd hU5
  simp (disch := first | assumption | omega) only [PX]
  refine st_talloc ze_want hT5 ?_
  intro b9 w6 hT6 hb9
  refine st_tstoreN (vs := [strV wt.name, .int .i64 wt.mode]) (by rw [sz31]; rfl) hT6 rfl (by simp [Value.oneCell']) (.inr hb9) ?_
  intro w7 hT7
  have hT7 : TbAt W [] (wtBx b9 wt :: wtBx b7 wt :: tabBx b4 vh vw :: F) T g w7 := hT7
  refine st_call (Victim_spec hT7 hfine hB x) ?_
  rintro _ w8 ⟨E, L, hE, rfl, hL, hT8⟩
  have hs8 : F.Sublist (wtBx b9 wt :: wtBx b7 wt :: tabBx b4 vh vw :: F) := hs4.trans (List.sublist_cons_self ..)
  have hD8 := hD5.on (hT8.weak hs8)
  unfold vicV
  simp (disch := first | assumption | omega) only [PX]
  have m4 : tabBx b4 vh vw ∈ wtBx b9 wt :: wtBx b7 wt :: tabBx b4 vh vw :: F := by simp
  have m7 : wtBx b7 wt ∈ wtBx b9 wt :: wtBx b7 wt :: tabBx b4 vh vw :: F := by simp
  have m9 : wtBx b9 wt ∈ wtBx b9 wt :: wtBx b7 wt :: tabBx b4 vh vw :: F := by simp
  rw [step_run (run_sLoad (tab_cells (hT8.at_ m4)).2.2)]
  refine st_call (rVictim_spec hD8.tab (by omega) (by omega) x) ?_
  rintro _ w9 ⟨E', L', hE', hL', rfl, hU9⟩
  have hEE : ∀ e, e ∈ E ↔ e ∈ E' := fun e => by rw [hE, hE', hS.edge hfine.good hfine.ok]
  obtain rfl : L = L' := sorted_ext (fun a b h1 h2 => by omega) hL.1 hL'.1 fun b => by rw [hL.2, hL'.2, Path.congr hEE, Path.congr hEE]
  have hpos : decide (0 < L.getLast?.getD 0) = !L.isEmpty := by
    cases hl : L.getLast? with
    | none => rw [List.getLast?_eq_none_iff.1 hl]; rfl
    | some b =>
      have hb : b ∈ L := List.mem_of_getLast? hl
      obtain ⟨c, hc⟩ := ((hL.2 b).1 hb).2.first
      have h1 := (hfine.txk (edge_txk hfine ((hE _).1 hc))).1
      have hne : L.isEmpty = false := by cases L with | nil => cases hb | cons a t => rfl
      rw [hne]
      exact decide_eq_true (by show 0 < b; exact h1)
  have hT9 := hT8.upd hU9
  have hD9 := hD8.upd hU9
  have hTd := hT9.upd (Upd.drew w9 [])
  have hDd := hD9.upd (Upd.drew w9 [])
  let S : World → Prop := fun w' => w'.heap[b4]? = some (tabBx b4 vh vw).2 ∧ w'.heap[b7]? = some (wtBx b7 wt).2 ∧ w'.heap[b9]? = some (wtBx b9 wt).2
  have hSof : ∀ {w' : World} {G : List (Nat × Obj)}, TbAt W [] (G ++ (wtBx b9 wt :: wtBx b7 wt :: tabBx b4 vh vw :: F)) T g w' → S w' := fun {w' G} h =>
    ⟨h.at_ (List.mem_append_right _ m4), h.at_ (List.mem_append_right _ m7), h.at_ (List.mem_append_right _ m9)⟩
  have hne : ∃ w', S w' := ⟨_, hSof (G := []) hTd⟩
  refine st_draw S (hSof (G := []) hTd) ?_
  rw [stepS_run hne fun w' hs => run_sLoad (wt_load hs.2.1), stepS_run hne fun w' hs => run_sLoad (wt_load hs.2.2), stepS_run hne fun w' hs => eq_want _ _ _ _]
  simp (disch := first | exact hne | assumption | omega) only [SX, SLX, hpos]
  have hbb : ∀ c : Bool, (c == c) = true := fun c => by cases c <;> rfl
  rw [hbb, hbb, show decide True = true from rfl]
  simp only [BX]
  rw [stepS_run hne fun w' hs => run_sLoad (tab_cells hs.1).2.2]
  refine st_call (Held_spec hTd hfine.ok hB x) ?_
  rintro v57 w10 ⟨hl, hr, hT10, -⟩
  refine st_same (hSof hT10) ?_
  have hsub10 : F.Sublist (hl ++ (wtBx b9 wt :: wtBx b7 wt :: tabBx b4 vh vw :: F)) := hs8.trans (List.sublist_append_right _ _)
  have hD10 := hDd.on (hT10.weak hsub10)
  refine st_call (rHeld_spec hD10.tab (by omega) hS.nodup x) ?_
  rintro v60 w11 ⟨L1, hr1, hU11, hp1, hm1, hlen1⟩
  have hT11 := hT10.upd hU11
  have hhl := heldT_len hfine.ok x
  obtain rfl : L1 = heldT T x := sorted_ext heLt_as hp1 (show List.Pairwise heLt (heldT T x) from (List.pairwise_map (R := fun a b : List UInt8 => a < b) (f := fun p : He => p.1)).1 (heldT_lt hfine.ok.keys x)) fun p => by rw [hm1, hS.held]
  refine st_keepT (fun _ => True) trivial ?_
  refine st_call (sameHeld_spec (hT11.rdHe hr (fun p hp => List.mem_append_left _ hp) (by omega)) hr1 (by omega)) ?_
  rintro _ w12 ⟨rfl, hU12⟩
  have hT12 : TbAt W [] (wtBx b9 wt :: wtBx b7 wt :: tabBx b4 vh vw :: F) T g w12 := (hT11.upd hU12).weak (List.sublist_append_right _ _)
  have hD12 := hD10.on (hT12.weak hs8)
  refine st_keepT S (hSof (G := []) hT12) ?_
  simp only [BX]
  rw [stepS_run hne fun w' hs => run_sLoad (tab_cells hs.1).2.2]
  refine st_call (Txns_spec hT12 hfine hB) ?_
  rintro v65 w13 ⟨L2, ⟨hl2, hr2, hT13, -⟩, hp2, hm2, hlen2⟩
  refine st_same (hSof hT13) ?_
  have hD13 := hD12.on (hT13.weak (hs8.trans (List.sublist_append_right _ _)))
  refine st_call (rTxns_spec hD13.tab (by omega) (by omega)) ?_
  rintro v67 w14 ⟨L3, hr3, hU14, hp3, hm3, hlen3⟩
  obtain rfl : L3 = L2 := sorted_ext (fun a b h1 h2 => by omega) hp3 hp2 fun y => by rw [hm3, hm2]; exact hS.txns hfine.ok.keys y
  have hT14 := hT13.upd hU14
  refine st_keepT (fun _ => True) trivial ?_
  refine st_call (Same_spec (hT14.rdI hr2 (fun p hp => List.mem_append_left _ hp)) (rdIn hr3) (by omega)) ?_
  rintro _ w15 ⟨rfl, hU15⟩
  refine st_keepT (fun _ => True) trivial ?_
  exact ⟨rfl, (hD13.upd hU14).upd hU15⟩
end
end Go.Proofs.YtakifgecgmdjcaaGreat

/- LockPlays. -/
namespace Go.Proofs.YtakifgecgmdjcaaGreat
open Go Xf Go.RowKit
set_option linter.unusedVariables false
set_option linter.unusedSimpArgs false
set_option maxRecDepth 100000

section
variable {W w w' w1 : World} {F : List (Nat × Obj)} {T : Tb} {g : Nat} {D : Rt} {vh vw : Value}
/-- what is read lies beside the box -/
theorem Sits.off {α : Type} {f : α → List Value} {k b : Nat} {u : Value} {l : List α} {G : List (Nat × Obj)} (hf : ∀ x, ∀ y ∈ f x, ∀ (A : Option Addr) (n c : Nat), y ≠ .slice A n c) (hk : 0 < k) (hr : RdS w f k u l) (h : Sits G u l) (hb : w.heap[b]? = some (tabBx b vh vw).2) (h1 : ∃ A n c, vh = .slice A n c) (h2 : ∃ A n c, vw = .slice A n c) (hG : ∀ p ∈ G, p.1 ≠ b → p ∈ F) : Sits F u l := by
  rcases h with h | ⟨b', o, e1, e2⟩
  · exact .inl h
  · cases l with
    | nil => exact .inl rfl
    | cons y l =>
      refine .inr ⟨b', o, e1, hG _ e2 fun he => ?_⟩
      obtain ⟨A0, c0, rfl, hm, A1, c1, q1, h4, h5, h6⟩ := hr
      injection q1 with q1 q2 q3
      subst q1 q3
      have hpos : 0 < ((y :: l).flatMap f).length := by rw [h5, List.length_cons]; exact Nat.mul_pos (Nat.succ_pos _) hk
      obtain ⟨a, rfl, hc⟩ := h6 0 _ (List.getElem?_eq_getElem hpos)
      injection e1 with e1
      subst e1
      simp only at he
      obtain ⟨x, -, hx⟩ := List.mem_flatMap.1 (List.getElem_mem hpos)
      have hn := hf x _ hx
      obtain ⟨A, n, c, rfl⟩ := h1
      obtain ⟨A', n', c', rfl⟩ := h2
      unfold World.cell? at hc
      rw [block_add, he, hb] at hc
      simp only [tabBx] at hc
      split at hc
      · cases hc
      · generalize (a.add 0).off = o at hc
        match o, hc with
        | 0, hc => injection hc with hc; exact hn _ _ _ hc.symm
        | 1, hc => injection hc with hc; exact hn _ _ _ hc.symm
        | o + 2, hc => simp [rtV, Value.cells] at hc
theorem rdS_sl {α : Type} {f : α → List Value} {k : Nat} {u : Value} {l : List α} (hr : RdS w f k u l) : ∃ A n c, u = .slice A n c := by
  obtain ⟨A0, c0, rfl, -⟩ := hr
  exact ⟨_, _, _, rfl⟩
/-- a new table into the box -/
theorem st_tdat {b : Nat} {uh uw : Value} {K : Value → World → Prop} (h : TDat W F T g vh vw D w) (hm : tabBx b uh uw ∈ F) (h1 : ∃ A n c, uh = .slice A n c) (h2 : ∃ A n c, uw = .slice A n c) (hb : W.heap.size ≤ b)
    (hk : ∀ w' F', TDat W F' T g vh vw D w' → tabBx b vh vw ∈ F' → K undef w') : (std Tryz.prog).step (sStore 27 (.pointer (some ⟨b, 0, none⟩)) (rtV vh vw)) w K := by
  obtain ⟨s, t, rfl⟩ := List.append_of_mem hm
  have hat := h.tb.at_ hm
  have hG : ∀ p ∈ s ++ tabBx b uh uw :: t, p.1 ≠ b → p ∈ s ++ t := fun p hp hne => by
    rcases List.mem_append.1 hp with hp | hp
    · exact List.mem_append_left _ hp
    · rcases List.mem_cons.1 hp with rfl | hp
      · exact absurd rfl hne
      · exact List.mem_append_right _ hp
  have s1 := h.sh.off rw_nosl (by decide) h.rh hat h1 h2 hG
  have s2 := h.sw.off rw_nosl (by decide) h.rw_ hat h1 h2 hG
  have hT := h.tb.permF (G := tabBx b uh uw :: (s ++ t)) List.perm_middle
  have hsub : (s ++ t).Sublist (tabBx b uh uw :: (s ++ t)) := List.sublist_cons_self ..
  have hD : TDat W (s ++ t) T g vh vw D w := ⟨hT.weak hsub, h.rh, h.rw_, s1, s2⟩
  refine st_tstoreN (vs := [vh, vw]) (by rw [sz27]; rfl) hT rfl h.ones (.inr hb) ?_
  intro w' hT'
  have hT' : TbAt W [] (tabBx b vh vw :: (s ++ t)) T g w' := hT'
  have hD' := hD.on (hT'.weak (List.sublist_cons_self ..))
  exact hk w' _ ⟨hT', hD'.rh, hD'.rw_, hD'.sh.mono (List.sublist_cons_self ..), hD'.sw.mono (List.sublist_cons_self ..)⟩ (List.mem_cons_self ..)
theorem LockPlays_spec (W : World) {v0 : Value} {ops : List LOp} (h0 : RdS W opV 4 v0 ops) (hops : ∀ o ∈ ops, okO o) :
    CallsR Tryz.prog 3 #[v0] W fun r w' => r = .bool true ∧ Upd W w' [] := by
  apply flotillalaw13_LockPlays_sound
  unfold flotillalaw13_LockPlays_x
  refine st_call (New_spec (Upd.refl W []) (Owns.nil W)) ?_
  rintro _ w1 ⟨g, rfl, hg, hT1⟩
  have hbuild : ∀ w : World, (sBuild 27 []).run Tryz.prog w = .ok (.value (rtV (.slice none 0 0) (.slice none 0 0))) w := fun w => by kernel_rfl
  rw [step_run (hbuild w1)]
  refine st_talloc ze_tab hT1 ?_
  intro b4 w2 hT2 hb4
  refine st_tstoreN (vs := [.slice none 0 0, .slice none 0 0]) (by rw [sz27]; rfl) hT2 rfl (by simp [Value.oneCell']) (.inr hb4) ?_
  intro w3 hT3
  have hT3 : TbAt W [] [tabBx b4 (.slice none 0 0) (.slice none 0 0)] ⟨[], []⟩ g w3 := hT3
  obtain ⟨A, c, hA, hmax, -⟩ := id h0
  have hmx : ops.length ≤ 9223372036854775807 := Nat.le_trans hmax (by decide)
  have hlenv : ∀ {w K}, (std Tryz.prog).step (sBuiltin .len #[22] 3 [false] [v0]) w K = K (.int .i64 (ops.length : Nat)) w := by rw [hA]; intro w K; simp (disch := first | assumption | omega) only [PX]
  have rd0 : ∀ w : World, RdS w rwV 4 (.slice none 0 0) [] := fun w => ⟨none, 0, rfl, Nat.zero_le _, Rd.nil_ _ _⟩
  have fine0 : Fine ⟨[], []⟩ 0 := Reach.nil.fine (fun o ho => by cases ho)
  refine st_loop (fun vs w' => ∃ (i : Nat) (T : Tb) (D : Rt) (vh vw : Value) (F : List (Nat × Obj)), i ≤ ops.length ∧ i ≤ 60 ∧ vs.getD 0 undef = .int .i64 i ∧ TDat W F T g vh vw D w' ∧ tabBx b4 vh vw ∈ F ∧ Fine T i ∧ Sim T D ∧ D.has.length + D.waits.length ≤ i) (fun vs _ => ops.length - (intOf (vs.getD 0 undef)).toNat) ⟨0, _, ⟨[], []⟩, _, _, _, Nat.zero_le _, Nat.zero_le _, rfl, ⟨hT3, rd0 w3, rd0 w3, .inl rfl, .inl rfl⟩, List.mem_cons_self .., fine0, Sim.empty, Nat.le_refl _⟩ ?_
  rintro dv vs w4 - ⟨i, T, D, vh, vw, F, hi, hi60, e0, hD, hmb, hfine, hS, hsz⟩
  have hlives : ∀ {w' : World}, Upd W w' [] → flotillalaw13_LockPlays_k1 (std Tryz.prog) (.pointer (some ⟨g, 0, none⟩)) w' fun r w' => r = .bool true ∧ Upd W w' [] := fun {w'} hU => by
    unfold flotillalaw13_LockPlays_k1
    simp (disch := first | assumption | omega) only [PX, BX]
    exact Turns_lives hU fun w' h => ⟨rfl, h⟩
  unfold flotillalaw13_LockPlays_k2
  rw [hlenv]
  simp (disch := first | assumption | omega) only [e0, PX, BX]
  refine ⟨fun hlt => ⟨fun hlt6 => ?_, fun _ => hlives hD.tb.1⟩, fun _ => hlives hD.tb.1⟩
  have hi' : i < ops.length := by omega
  obtain ⟨a, c', hac, hcell⟩ := op_at h0 hi'
  have hix : ∀ {w K}, (std Tryz.prog).step (sIndexAddr 22 v0 (.int .i64 (i : Nat))) w K = K (.pointer (some (a.add (i * 4)))) w := by rw [hac]; intro w K; simp (disch := first | assumption | omega) only [PX]
  have hixS : ∀ {S : World → Prop} {k : Value → Prop}, (∃ w, S w) → (std Tryz.prog).stepS S (sIndexAddr 22 v0 (.int .i64 (i : Nat))) k = k (.pointer (some (a.add (i * 4)))) := fun hne => by rw [hac]; exact sx_ix22 hi' hne
  rw [hix, step_run (run_sLoad (op_load (hcell w4 hD.tb.1)))]
  refine st_call (short_spec ops[i] w4) ?_
  rintro _ w5 ⟨rfl, hU5⟩
  have hD5 := hD.upd hU5
  simp only [PX]
  rw [bool_var]
  refine ⟨fun _ => Turns_lives hD5.tb.1 fun w' h => ⟨rfl, h⟩, fun hs => ?_⟩
  have hs : shortB ops[i] = true := by simpa using hs
  let S (vh vw : Value) : World → Prop := fun w' => w'.heap[b4]? = some (tabBx b4 vh vw).2 ∧ Upd W w' []
  have hSof : ∀ {w' : World} {F : List (Nat × Obj)} {T : Tb} {D : Rt} {vh vw uh uw : Value}, TDat W F T g uh uw D w' → tabBx b4 vh vw ∈ F → S vh vw w' := fun h hm => ⟨h.tb.at_ hm, h.tb.1⟩
  have hDd := hD5.upd (Upd.drew w5 [])
  have hne : ∃ w', S vh vw w' := ⟨_, hSof hDd hmb⟩
  refine st_draw (S vh vw) (hSof hDd hmb) ?_
  rw [stepS_run hne fun w' hs => run_sLoad (tab_cells hs.1).2.2, hixS hne, stepS_run hne fun w' hs => run_sLoad (op_load (hcell w' hs.2))]
  refine st_call (step_spec hDd hfine (by omega) hS (by omega) hs) ?_
  rintro _ w6 ⟨T', D', vh', vw', F', rfl, hsub, hD6, hS', ⟨new, hnew⟩, hsz'⟩
  have hfine' : Fine T' (i + 1) := by rw [hnew]; exact hfine.step new _ (hops _ (List.getElem_mem hi')).2.1
  refine st_keepT (fun _ => True) trivial ?_
  have hneT : ∃ w : World, (fun _ => True) w := ⟨w6, trivial⟩
  simp (disch := exact hneT) only [SX]
  refine st_tdat hD6 (hsub.mem hmb) (rdS_sl hD.rh) (rdS_sl hD.rw_) hb4 ?_
  intro w7 F2 hD7 hmb7
  refine st_same trivial ?_
  have hD8 := hD7.upd (Upd.drew w7 [])
  have hne8 : ∃ w', S vh' vw' w' := ⟨_, hSof hD8 hmb7⟩
  refine st_draw (S vh' vw') (hSof hD8 hmb7) ?_
  simp (disch := exact hne8) only [SX]
  simp only [BX]
  rw [stepS_run hne8 fun w' hs => run_sLoad (tab_cells hs.1).2.2, hixS hne8]
  have k1 : ∀ w', S vh' vw' w' → w'.cell? (a.add (i * 4 + 1)) = some (.int .i64 ops[i].txn) := fun w' hs => hcell w' hs.2 1 _ rfl
  simp (disch := first | exact hne8 | assumption) only [SX, SLX, add_add']
  refine st_call (alike_spec hD8 hfine' (by omega) hS' (by omega) ops[i].txn) ?_
  rintro _ w8 ⟨rfl, hD9⟩
  refine st_keepT (S vh' vw') (hSof hD9 hmb7) ?_
  simp (disch := exact hne8) only [SX]
  simp only [BX]
  rw [stepS_run hne8 fun w' hs => run_sLoad (tab_cells hs.1).2.2]
  refine st_call (Edges_spec hD9.tb hfine' (by omega)) ?_
  rintro v55 w9 ⟨L, ⟨hl, hr, hT9, -⟩, hp, hm, hlen⟩
  have hD10 := hD9.on (hT9.weak (List.sublist_append_right _ _))
  refine st_same (hSof hD10 hmb7) ?_
  refine st_call (rEdges_spec hD10.tab (by omega) (by omega)) ?_
  rintro v57 w10 ⟨L', hL', hU10⟩
  obtain rfl : L = L' := sorted_ext edLt_as hp hL'.pw fun e => by rw [hm, hL'.mem]; exact (hS'.edge hfine'.good hfine'.ok e).symm
  have hT10 := hT9.upd hU10
  have hD11 := hD10.upd hU10
  refine st_keepT (fun _ => True) trivial ?_
  refine st_call (sameEdges_spec (hT10.rdEd hr (fun p hp => List.mem_append_left _ hp) (by omega)) hL'.rd (by omega)) ?_
  rintro _ w11 ⟨rfl, hU11⟩
  have hD12 := hD11.upd hU11
  refine st_keepT (fun _ => True) trivial ?_
  simp (disch := exact hneT) only [SX]
  simp only [BX]
  simp (disch := omega) only [PX, w64]
  refine ⟨⟨i + 1, T', D', vh', vw', F2, by omega, by omega, rfl, hD12, hmb7, hfine', hS', by omega⟩, ?_⟩
  simp only [List.getD_cons_zero, intOf]; omega
end
end Go.Proofs.YtakifgecgmdjcaaGreat
