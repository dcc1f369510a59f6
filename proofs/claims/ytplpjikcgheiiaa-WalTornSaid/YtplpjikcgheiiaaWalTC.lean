/- WalTorn: the steps. -/
import Derived.Test.YtplpjikcgheiiaaWalTB
namespace Go.Proofs.Ytplpjikcgheiiaa.Wal
open Go Go.Proofs.Ytplpjikcgheiiaa Go.Proofs.Ytplpjikcgheiiaa.Rec Xf Go.RowKit Go.ChangeShapes Go.WideShapes Go.Deep
set_option linter.unusedVariables false
set_option linter.unusedSimpArgs false
set_option maxRecDepth 100000

/-- what holds ahead of each step -/
def TornI (w1 : World) (gd g2 : Addr) (m : Nat) (vs : List Value) (w' : World) : Prop := ∃ (i fc : Nat) (d' : Dv) (s' : Lg), vs.getD 2 undef = .int .i64 i ∧ vs.getD 1 undef = .int .i64 fc ∧ i ≤ m ∧ Sys w1 (.pointer (some gd)) (.pointer (some g2)) d' s' w' ∧ Inv d' s' ∧ s'.hand = 1 ∧ (s'.fl ≠ 0 → fc = s'.fl)
theorem torn_k14 {w1 : World} {i m : Nat} {gd g2 : Addr} {vs : List Value} {u6 : Value} {fc : Nat} (e2 : vs.getD 2 undef = .int .i64 i) (hi' : i < m) (hm : m ≤ 2 ^ 63 - 1) {w' : World} {d' : Dv} {s' : Lg} (hS' : Sys w1 (.pointer (some gd)) (.pointer (some g2)) d' s' w') (hI' : Inv d' s') (hh : s'.hand = 1) (hf : s'.fl ≠ 0 → fc = s'.fl) {Q : Value → World → Prop} :
    flotillalaw09_WalTorn_k14 (std Try.prog) vs (fun vs' w' => TornI w1 gd g2 m vs' w' ∧ m - (intOf (vs'.getD 2 undef)).toNat < m - (intOf (.int .i64 (i : Nat))).toNat) u6 (.int .i64 (fc : Nat)) w' Q := by
  unfold flotillalaw09_WalTorn_k14
  simp (disch := omega) only [e2, PX, w64]
  refine ⟨⟨i + 1, fc, d', s', rfl, rfl, by omega, hS', hI', hh, hf⟩, ?_⟩
  show m - (intOf (.int .i64 ((i : Int) + 1))).toNat < m - (intOf (.int .i64 (i : Nat))).toNat
  simp only [intOf]; omega
theorem joinL_fl (s : Lg) (r : Re) (room : Int) : (joinL s r room).1.fl = s.fl ∧ (joinL s r room).1.hand = s.hand := by
  unfold joinL
  split
  · exact ⟨rfl, rfl⟩
  · split <;> exact ⟨rfl, rfl⟩
theorem keepL_fl (n : Nat) (s : Lg) (m : Int) : (keepL n s m).1.fl = s.fl ∧ (keepL n s m).1.hand = s.hand := by
  unfold keepL
  split
  · exact ⟨rfl, rfl⟩
  · split <;> exact ⟨rfl, rfl⟩
theorem spendL_fl (s : Lg) (r : Re) : (spendL s r).1.fl = s.fl ∧ (spendL s r).1.hand = s.hand := by
  unfold spendL
  split
  · exact joinL_fl s r _
  · exact joinL_fl s r _
theorem WalTorn_spec (W : World) (size sectors : Int) (hsz : in64 size) (va : Value) (ops : List WOp) (hops : RdOps W va ops) :
    CallsR Try.prog 6 #[.int .i64 size, va, .int .i64 sectors] W fun u w' => u = .bool true ∧ Upd W w' [] := by
  unfold in64 at hsz
  apply flotillalaw09_WalTorn_sound
  unfold flotillalaw09_WalTorn_x flotillalaw09_WalTorn_k1
  refine st_call (sysNew (Upd.refl W []) size) ?_
  rintro _ w2 ⟨hU2, ⟨hn, rfl⟩ | ⟨hok, gd, rfl, hD⟩⟩
  · simp only [PX]
    refine st_call (Open_log_nil w2 1) ?_
    rintro _ w3 ⟨rfl, rfl⟩
    simp only [PX, BX]
    refine ⟨fun _ => ?_, fun h => absurd (by decide) h⟩
    rw [show (true == decide ((1 : Int) ≠ 0)) = true from rfl]
    simp only [BX]
    exact torn_lives hU2
  unfold sizeOk at hok
  obtain ⟨N, rfl⟩ : ∃ N : Nat, size = N := ⟨size.toNat, by omega⟩
  rw [Int.toNat_natCast] at hD
  simp only [PX]
  have hdok : DvOk (newD N) := DvOk.new (by omega) (by omega)
  refine st_call (sysOpen hD hdok 1) ?_
  have hlen : (newD N).B.length = N := by simp [newD]
  rintro _ w3 (⟨hne, rfl, hD3⟩ | ⟨he, g2, rfl, hS⟩)
  · have h64 : ¬ 64 ≤ N := fun h => hne (At.new (hand := 1) (by omega) (by omega) h (by decide)).openE
    have he1 : openE (newD N) 1 = 1 := by unfold openE; rw [if_pos (.inl (by rw [hlen]; omega))]
    rw [he1]
    simp (disch := omega) only [PX, BX]
    refine ⟨fun h => absurd rfl h, fun _ => ⟨fun h => absurd h (by omega), fun _ => ⟨fun _ => ?_, fun h => absurd (by omega) h⟩⟩⟩
    rw [show (true == decide ((1 : Int) ≠ 0)) = true from rfl]
    simp only [BX]
    exact torn_lives hD3.upd
  simp (disch := omega) only [PX, BX]
  have hl : ∀ {K : Prop}, K → (std Try.prog).bool (.bool (false == decide ((0 : Int) ≠ 0))) K (Value.bool false = Value.bool true ∧ Upd W w3 []) := fun hk => by
    rw [show (false == decide ((0 : Int) ≠ 0)) = true from rfl]
    simp only [BX]
    exact hk
  refine ⟨fun h => absurd rfl h, fun _ => ⟨fun _ => hl (torn_lives hS.upd), fun h1 => ⟨fun _ => hl (torn_lives hS.upd), fun h2 => ⟨fun h => absurd rfl h, fun _ => ?_⟩⟩⟩⟩
  have hat : At (newD N) 1 [] := At.new (by omega) (by omega) (by omega) (by decide)
  have hI := hat.inv
  rw [hat.openS] at hS hI
  obtain ⟨A, c, rfl, hm, hE⟩ := hops
  unfold maxLen at hm
  refine st_loop (TornI W gd g2 ops.length) (fun vs _ => ops.length - (intOf (vs.getD 2 undef)).toNat) ⟨0, 0, _, _, rfl, rfl, Nat.zero_le _, hS, hI, rfl, fun h => absurd rfl h⟩ ?_
  rintro dv vs w8 - ⟨i, fc, d8, s8, e2, e1, hi, hS8, hI8, hh8, hf8⟩
  simp (disch := omega) only [e1, e2, PX, BX]
  refine ⟨fun hlt => ⟨fun h60 => ?_, fun _ => torn_k2 (Upd.refl W []) sectors hS8 hI8 hh8 hf8⟩, fun _ => torn_k2 (Upd.refl W []) sectors hS8 hI8 hh8 hf8⟩
  have hi' : i < ops.length := by omega
  obtain ⟨hn64, hsh, a, xt, xd, rfl, hc, rt, rd⟩ := hE i hi'
  have hst : ∀ {w'}, Upd W w' [] → StepAt w' (a.add (i * 15)) ops[i] xt xd := fun hu => (StepAt.of hc).mono hu
  have hre : ∀ {w'}, Upd W w' [] → RdRe w' (.agg (reV ops[i].r xt xd).toArray) ops[i].r := fun hu => ⟨xt, xd, rfl, rt.mono hu, rd.mono hu⟩
  simp (disch := first | assumption | omega) only [PX]
  rw [step_run (run_reN (hst hS8.upd).re)]
  refine st_call (light_spec hsh (hre hS8.upd)) ?_
  rintro _ w9 ⟨rfl, hU9⟩
  have hS9 := hS8.ext hU9
  simp (disch := first | assumption | omega) only [PX, BX]
  refine ⟨fun hli => ?_, fun _ => torn_lives hS9.upd⟩
  have ck := (hst hS9.upd).kind
  have cn := (hst hS9.upd).n
  simp (disch := first | assumption | omega) only [PX, LX, BX]
  refine ⟨fun _ => ?_, fun _ => ⟨fun _ => ?_, fun _ => ⟨fun _ => ?_, fun _ => ⟨fun _ => ?_, fun _ => ⟨fun _ => ?_, fun _ => torn_k14 e2 hi' hm hS9 hI8 hh8 hf8⟩⟩⟩⟩⟩
  · rw [step_run (run_reN (hst hS9.upd).re)]
    refine st_call (sysAppend hS9 hI8.fit (hre hS9.upd)) ?_
    rintro _ w10 ⟨-, hS10⟩
    exact torn_k14 e2 hi' hm hS10 (hI8.join (Int.le_refl _)) (by rw [(joinL_fl _ _ _).2]; exact hh8) (by rw [(joinL_fl _ _ _).1]; exact hf8)
  · refine st_call (sysKeep hS9 hI8.fit _ hn64.1) ?_
    rintro _ w10 ⟨-, hS10⟩
    exact torn_k14 e2 hi' hm hS10 hI8.keep (by rw [(keepL_fl _ _ _).2]; exact hh8) (by rw [(keepL_fl _ _ _).1]; exact hf8)
  · rw [step_run (run_reN (hst hS9.upd).re)]
    refine st_call (sysSpend hS9 hI8.fit (hre hS9.upd)) ?_
    rintro _ w10 ⟨-, hS10⟩
    exact torn_k14 e2 hi' hm hS10 hI8.spend (by rw [(spendL_fl _ _).2]; exact hh8) (by rw [(spendL_fl _ _).1]; exact hf8)
  · refine st_call (sysForce hS9 hI8.dok hI8.fit) ?_
    rintro _ w10 ⟨rfl, hS10⟩
    obtain ⟨hb10, hI10, hB10, hs10⟩ := hI8.force
    rw [hb10]
    simp only [BX]
    refine ⟨fun hgo => ?_, fun hno => ?_⟩
    · rw [if_pos hgo] at hs10
      rw [hs10] at hS10 hI10
      refine st_call (sysRecords hS10 hI10.fit) ?_
      rintro u w11 ⟨hR, hS11⟩
      obtain ⟨Au, cu, rfl⟩ := hR.sl
      rw [List.length_map]
      simp only [PX]
      exact torn_k14 e2 hi' hm hS11 hI10 hh8 fun _ => rfl
    · rw [if_neg hno] at hs10
      rw [hs10] at hS10 hI10
      exact torn_k14 e2 hi' hm hS10 hI10 hh8 hf8
  · refine st_call (sysDone hS9 hI8.dok hI8.fit) ?_
    rintro _ w10 ⟨-, hS10⟩
    obtain ⟨hI10, hB10, hs10, -⟩ := hI8.done
    refine torn_k14 e2 hi' hm hS10 hI10 ?_ ?_
    · rw [hs10]
      split
      · exact hh8
      · split <;> exact hh8
    · rw [hs10]
      split
      · exact hf8
      · split
        · intro h; exact absurd rfl h
        · exact hf8
end Go.Proofs.Ytplpjikcgheiiaa.Wal
