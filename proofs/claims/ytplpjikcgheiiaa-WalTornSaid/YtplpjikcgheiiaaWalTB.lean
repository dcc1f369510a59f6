/- WalTorn. -/
import Derived.Test.YtplpjikcgheiiaaWalTA
namespace Go.Proofs.Ytplpjikcgheiiaa.Wal
open Go Go.Proofs.Ytplpjikcgheiiaa Go.Proofs.Ytplpjikcgheiiaa.Rec Xf Go.RowKit Go.ChangeShapes Go.WideShapes Go.Deep
set_option linter.unusedVariables false
set_option linter.unusedSimpArgs false
set_option maxRecDepth 100000

/-- behind all: what is opened is what stands there -/
theorem torn_k4 {W w1 w : World} {gd : Addr} {d : Dv} {L : List En} {got : Value} (hU1 : Upd W w1 []) (hat : At d 1 L) {F : List (Nat × Obj)} (hD : DevF w1 F (.pointer (some gd)) d w) (hg : RdRs w got (L.map (·.r))) :
    flotillalaw09_WalTorn_k4 (std Try.prog) (.pointer (some gd)) got w fun u w' => u = .bool true ∧ Upd W w' [] := by
  unfold flotillalaw09_WalTorn_k4 flotillalaw09_WalTorn_k5
  refine st_call (fOpen hD hat.dok 1) ?_
  rintro _ w2 ⟨hU2, (⟨hn, _⟩ | ⟨_, g2, rfl, hS⟩)⟩
  · exact absurd hat.openE hn
  have hI := hat.inv
  rw [hat.openS] at hS hI
  have hg := hg.mono hU2
  simp only [PX, BX]
  refine ⟨fun _ => ?_, fun h => (by first | exact absurd rfl h | exact absurd trivial h)⟩
  refine st_call (fRecords hS hI.fit) ?_
  rintro u w3 ⟨hU3, hN, hS3⟩
  have hR := hN.rd
  have hS3 := hS3.to
  refine st_call (SameRecords_spec w3 u got _ _ hR (hg.mono hU3)) ?_
  rintro _ w4 ⟨rfl, hU4⟩
  have hS4 := hS3.ext hU4
  rw [decide_eq_true rfl]
  simp only [BX]
  refine st_call (sysStable hS4 hI.fit.st) ?_
  rintro _ w5 ⟨rfl, hS5⟩
  refine st_call (sysLast hS5) ?_
  rintro _ w6 ⟨rfl, hS6⟩
  rw [lastL_eq]
  simp only [PX, BX]
  refine ⟨fun _ => ?_, fun h => (by first | exact absurd rfl h | exact absurd trivial h)⟩
  refine st_call (sysKept hS6) ?_
  rintro _ w7 ⟨rfl, hS7⟩
  simp only [PX, BX]
  exact ⟨fun _ => torn_lives (hU1.trans hS7.upd), fun h => (by first | exact absurd rfl h | exact absurd trivial h)⟩
/-- behind all: what is opened is what stands there -/
theorem torn_k11 {W w1 w : World} {gd : Addr} {d : Dv} {L : List En} {got : Value} (hU1 : Upd W w1 []) (hat : At d 1 L) {F : List (Nat × Obj)} (hD : DevF w1 F (.pointer (some gd)) d w) (hg : RdRs w got (L.map (·.r))) :
    flotillalaw09_WalTorn_k11 (std Try.prog) (.pointer (some gd)) got w fun u w' => u = .bool true ∧ Upd W w' [] := by
  unfold flotillalaw09_WalTorn_k11 flotillalaw09_WalTorn_k12
  refine st_call (fOpen hD hat.dok 1) ?_
  rintro _ w2 ⟨hU2, (⟨hn, _⟩ | ⟨_, g2, rfl, hS⟩)⟩
  · exact absurd hat.openE hn
  have hI := hat.inv
  rw [hat.openS] at hS hI
  have hg := hg.mono hU2
  simp only [PX, BX]
  refine ⟨fun _ => ?_, fun h => (by first | exact absurd rfl h | exact absurd trivial h)⟩
  refine st_call (fRecords hS hI.fit) ?_
  rintro u w3 ⟨hU3, hN, hS3⟩
  have hR := hN.rd
  have hS3 := hS3.to
  refine st_call (SameRecords_spec w3 u got _ _ hR (hg.mono hU3)) ?_
  rintro _ w4 ⟨rfl, hU4⟩
  have hS4 := hS3.ext hU4
  rw [decide_eq_true rfl]
  simp only [BX]
  refine st_call (sysStable hS4 hI.fit.st) ?_
  rintro _ w5 ⟨rfl, hS5⟩
  refine st_call (sysLast hS5) ?_
  rintro _ w6 ⟨rfl, hS6⟩
  rw [lastL_eq]
  simp only [PX, BX]
  refine ⟨fun _ => ?_, fun h => (by first | exact absurd rfl h | exact absurd trivial h)⟩
  refine st_call (sysKept hS6) ?_
  rintro _ w7 ⟨rfl, hS7⟩
  simp only [PX, BX]
  exact ⟨fun _ => torn_lives (hU1.trans hS7.upd), fun h => (by first | exact absurd rfl h | exact absurd trivial h)⟩

theorem torn_k3 {W w1 w : World} {gd : Addr} {d : Dv} {L : List En} {got : Value} {F : List (Nat × Obj)} {b : Bool} {fl fc : Nat} (hU1 : Upd W w1 []) (hat : At d 1 L) (hD : DevF w1 F (.pointer (some gd)) d w) (hg : RdRs w got (L.map (·.r))) (hb : b = false → 0 < fl ∧ L.length = fc) :
    flotillalaw09_WalTorn_k3 (std Try.prog) (.pointer (some gd)) (.int .i64 (fc : Nat)) (.bool (decide (0 < fl))) got (.bool b) w fun u w' => u = .bool true ∧ Upd W w' [] := by
  unfold flotillalaw09_WalTorn_k3
  simp only [PX, BX]
  cases b with
  | true => simp only [BX]; exact torn_k4 hU1 hat hD hg
  | false =>
    obtain ⟨h1, h2⟩ := hb rfl
    obtain ⟨A, c, rfl⟩ := hg.sl
    rw [List.length_map] at hg ⊢
    simp (disch := omega) only [PX, BX]
    refine ⟨fun _ => ?_, fun h => absurd h1 h⟩
    unfold flotillalaw09_WalTorn_k6
    simp only [BX]
    exact ⟨fun _ => torn_k4 hU1 hat hD hg, fun h => absurd (by omega) h⟩
theorem lsn_pos {L : List En} (h : ∀ x ∈ L, okP x.r) {n : Nat} (hn : n ≤ L.length) : lsnAt (L.map (·.r)) n = 0 ↔ n = 0 := by
  constructor
  · intro h0
    rcases Nat.eq_zero_or_pos n with hz | hz
    · exact hz
    · rw [lsnAt_pos (by omega) (by rw [List.length_map]; omega), List.getElem_map] at h0
      have := (h _ (List.getElem_mem (show n - 1 < L.length by omega))).2.2.1.1
      omega
  · rintro rfl; rfl
theorem torn_k2 {W w1 w : World} {gd g2 : Addr} {d : Dv} {s : Lg} {fc : Nat} (hU1 : Upd W w1 []) (sectors : Int) (hS : Sys w1 (.pointer (some gd)) (.pointer (some g2)) d s w) (hI : Inv d s) (hhand : s.hand = 1) (hfc : s.fl ≠ 0 → fc = s.fl) :
    flotillalaw09_WalTorn_k2 (std Try.prog) (.int .i64 sectors) (.pointer (some gd)) (.pointer (some g2)) (.int .i64 (fc : Nat)) w fun u w' => u = .bool true ∧ Upd W w' [] := by
  unfold flotillalaw09_WalTorn_k2
  have hle := hI.fit.len
  refine st_call (fRecords (SysF.of hS) hI.fit) ?_
  rintro u w2 ⟨hU2, hN, -⟩
  obtain ⟨A, c, rfl⟩ := hN.rd.sl
  obtain ⟨R, hS2, hrd⟩ := hN.keep hU2 (SysF.of hS)
  refine st_call (fStable hS2 hI.fit.st) ?_
  rintro _ w3 ⟨rfl, rfl⟩
  refine st_call (fFlying hS2) ?_
  rintro _ w4 ⟨rfl, rfl⟩
  refine st_call (fCrash hS2.dev hI.dok 1 sectors) ?_
  rintro _ w5 ⟨-, hD5⟩
  obtain ⟨j, hj, hjl, hat, -⟩ := hI.crash sectors
  rw [hhand] at hat
  have hall := hrd w5 (hD5.owns.sub (List.sublist_append_left _ _))
  refine st_call (fRead hD5 hat.dok) ?_
  rintro got w6 ⟨hU6, hgot⟩
  rw [hat.scan] at hgot
  simp only at hgot
  have hall := hall.mono hU6
  have hD6 := hD5.ext hU6
  obtain ⟨B, c2, rfl⟩ := hgot.sl
  have hlt : (s.L.take j).length = j := by rw [List.length_take]; omega
  have hlm : ((s.L.take j).map (·.r)).length = j := by rw [List.length_map, hlt]
  have hla : (s.L.map (·.r)).length = s.L.length := List.length_map ..
  rw [hlm] at hgot ⊢
  rw [hla] at hall ⊢
  simp (disch := omega) only [PX, BX]
  refine ⟨fun h => absurd h (by omega), fun _ => ?_⟩
  have hcap : j ≤ c := by
    obtain ⟨rows, ho, hk, h1, -⟩ := hN
    rcases h1.2 with ⟨_, h0, _⟩ | ⟨g0, cap, cs, he, _, hle0, _⟩
    · rw [hla] at h0; omega
    · injection he with _ _ h3; subst h3; rw [hla] at hle0; omega
  rw [step_run (run_sliceTo u31 sz41 (by omega) (by omega)), show ((j : Nat) : Int).toNat = j by omega]
  have hA0 : (if c = 0 then A else A.map (·.add 0)) = A := by
    split
    · rfl
    · cases A <;> simp [Addr.add]
  rw [hA0]
  have htk := hall.take (m := j) (by rw [hla]; exact hjl)
  rw [← List.map_take] at htk
  refine st_call (SameRecords_spec w6 _ _ _ _ hgot htk) ?_
  rintro _ w7 ⟨rfl, hU7⟩
  have hgot := hgot.mono hU7
  have hD7 := hD6.ext hU7
  rw [decide_eq_true rfl]
  simp only [PX, BX, Bool.not_true]
  have hz := lsn_pos (L := s.L) hI.fit.ok hI.fit.st
  have idx : 0 < j → (std Try.prog).step (sIndexAddr 31 (.slice B j c2) (.int .i64 (IntKind.i64.wrap ((j : Int) - 1)))) w7 (fun v156_1 w =>
      (std Try.prog).step (sFieldAddr 41 v156_1 1) w fun v157_1 w =>
      (std Try.prog).step (sLoad 34 v157_1) w fun v158_1 w =>
      (std Try.prog).step (sBin BinOp.eql 34 (Operand.tmp 158) (Operand.tmp 159) v158_1 (Value.int IntKind.u64 (lsnAt (List.map (fun x => x.r) s.L) s.st : Nat))) w fun v160_1 w =>
      flotillalaw09_WalTorn_k3 (std Try.prog) (Value.pointer (some gd)) (Value.int IntKind.i64 (fc : Nat)) (Value.bool (decide (0 < s.fl))) (Value.slice B j c2) v160_1 w fun u w' => u = Value.bool true ∧ Upd W w' []) := by
    intro h0
    have hg0 := hgot
    obtain ⟨B', c', he, hmx, hE⟩ := hg0
    injection he with h1 _ h3
    subst h1 h3
    obtain ⟨b, vt, vd, rfl, hc, -⟩ := hE (j - 1) (by omega)
    have hw : IntKind.i64.wrap ((j : Int) - 1) = ((j - 1 : Nat) : Int) := by rw [w64 (by omega) (by omega)]; omega
    have hc1 := hc 1 _ rfl
    rw [hw]
    simp (disch := omega) only [PX]
    rw [step_run (run_sLoad (run_loadVar1 ag34 hc1))]
    simp only [PX]
    refine torn_k3 hU1 hat hD7 hgot fun hb => ?_
    rcases hj with rfl | ⟨h1, rfl⟩
    · exfalso
      rw [decide_eq_false_iff_not] at hb
      refine hb ?_
      rw [lsnAt_pos (by omega) (by omega)]
      simp [List.getElem_map, List.getElem_take]
    · exact ⟨by omega, by rw [hlt, hfc h1]⟩
  have hgot' : RdRs w7 (.slice B j c2) ((s.L.take j).map (·.r)) := hgot
  refine ⟨fun h0 => ⟨fun _ => torn_k11 hU1 hat hD7 hgot', fun hne => ⟨fun hp => idx (by omega), fun hp => absurd hne (by omega)⟩⟩, fun h0 => ⟨fun hp => idx (by omega), fun hp => ?_⟩⟩
  have hst0 : s.st ≠ 0 := fun h => h0 (by have := hz.2 h; omega)
  rcases hj with rfl | ⟨h1, rfl⟩ <;> exact absurd hp (by omega)
end Go.Proofs.Ytplpjikcgheiiaa.Wal
