/- WalKeeps. -/
import Derived.Test.YtplpjikcgheiiaaWalKA
namespace Go.Proofs.Ytplpjikcgheiiaa.Wal
open Go Go.Proofs.Ytplpjikcgheiiaa Go.Proofs.Ytplpjikcgheiiaa.Rec Xf Go.RowKit Go.ChangeShapes Go.WideShapes Go.Deep
set_option linter.unusedVariables false
set_option linter.unusedSimpArgs false
set_option maxRecDepth 100000

theorem spendL_ok {s : Lg} {r : Re} (hok : okP r) (hl : lastL s.L < r.lsn) (hk : (frB r).length ≤ s.kp) : spendL s r = ({ s with L := s.L ++ [⟨r, frB r⟩], size := s.size + (frB r).length, kp := s.kp - (frB r).length }, 0) := by
  have hj : joinL s r s.kp = ({ s with L := s.L ++ [⟨r, frB r⟩], size := s.size + (frB r).length }, 0) := by
    unfold joinL
    rw [if_neg (fun h => h.elim (fun h => h hok) fun h => by omega), if_neg (by omega)]
  unfold spendL
  rw [hj, if_pos rfl]
theorem fin_lives {W w : World} (hU : Upd W w []) : (std Try.prog).calls 9 #[] w fun v w' => v = .bool true ∧ Upd W w' [] := st_call (lives_spec hU) fun _ _ h => h
theorem fin_livesT {W w : World} (hU : Upd W w []) : (std Try.prog).calls 9 #[] w fun v w' => (std Try.prog).keepT w' fun S => v = .bool true ∧ Upd W w' [] :=
  st_call (lives_spec hU) fun _ w' h => st_keepT (fun _ => True) trivial h
theorem joinL_kp (s : Lg) (r : Re) (room : Int) : (joinL s r room).1.kp = s.kp := by
  unfold joinL
  split
  · rfl
  · split <;> rfl
theorem keepL_kp (n : Nat) (s : Lg) (m : Int) : s.kp ≤ (keepL n s m).1.kp := by
  unfold keepL
  split
  · exact Nat.le_refl _
  · split
    · exact Nat.le_refl _
    · simp only; omega
theorem keeps_end {W w1 : World} {g N n : Nat} {gd g2 : Addr} {code : Int} {r : Re} {vt vd : Value} (hU1 : Upd W w1 []) (hO1 : Owns w1 [(g, reO r vt vd)]) (ht : RdS W txV 3 vt r.ts) (hd : RdS W diV 2 vd r.ds) (hrok : okP r) (hnn : (frB r).length = n) (h2 : N ≤ 65536)
    {w' : World} {d' : Dv} {s' : Lg} (hS' : Sys w1 (.pointer (some gd)) (.pointer (some g2)) d' s' w') (hI' : Inv d' s') (hL' : d'.B.length = N) (hk' : code = 0 → n ≤ s'.kp) :
    flotillalaw09_WalKeeps_k2 (std Try.prog) (.int .i64 (N : Nat)) (.pointer (some ⟨g, 0, none⟩)) (.pointer (some g2)) (.bool (decide (code = 0))) w' fun u w' => u = .bool true ∧ Upd W w' [] := by
  unfold flotillalaw09_WalKeeps_k2 flotillalaw09_WalKeeps_k3
  let SS : World → Prop := fun w' => w'.heap[g]? = some (reO r vt vd)
  have hSg : ∀ {w'}, Upd w1 w' [] → SS w' := fun hu => (hO1.ext hu).at_ 0 rfl
  have hS1 := hS'.ext (Upd.drew w' [])
  have hne : ∃ w', SS w' := ⟨_, hSg hS1.upd⟩
  have cl : ∀ w', SS w' → w'.cell? ⟨g, 1, none⟩ = some (.int .u64 (r.lsn : Nat)) := fun w' hs => (cell_at hs).trans rfl
  refine st_draw SS (hSg hS1.upd) ?_
  simp (disch := first | exact hne | assumption | omega) only [SX, SLX, BX, add_mk, Nat.reduceAdd]
  refine ⟨fun hc0 => ?_, fun _ => fin_lives (hU1.trans hS1.upd)⟩
  refine st_call (sysLast hS1) ?_
  rintro _ w3 ⟨rfl, hS3⟩
  refine st_same (hSg hS3.upd) ?_
  simp (disch := first | exact hne | assumption | omega) only [SX, SLX, BX, add_mk, Nat.reduceAdd]
  refine ⟨fun _ => fin_lives (hU1.trans hS3.upd), fun hgt => ?_⟩
  have hS4 := hS3.ext (Upd.drew w3 [])
  refine st_draw SS (hSg hS4.upd) ?_
  rw [stepS_run hne fun w' hs => run_re hs]
  have hrd : ∀ {w'}, Upd w1 w' [] → RdRe w' (.agg (reV r vt vd).toArray) r := fun hu => ⟨vt, vd, rfl, ht.mono (hU1.trans hu), hd.mono (hU1.trans hu)⟩
  refine st_call (sysSpend hS4 hI'.fit (hrd hS4.upd)) ?_
  have hsp := spendL_ok (s := s') hrok (by omega) (by rw [hnn]; exact hk' hc0)
  have hI5 := hI'.spend (r := r)
  rw [hsp] at hI5 ⊢
  rintro _ w5 ⟨rfl, hS5⟩
  refine st_keepT SS (hSg hS5.upd) ?_
  simp (disch := first | exact hne | assumption | omega) only [SX, SLX, BX, add_mk, Nat.reduceAdd]
  refine ⟨fun _ => ?_, fun h => absurd trivial h⟩
  refine st_call (sysLast hS5) ?_
  rintro _ w6 ⟨rfl, hS6⟩
  refine st_same (hSg hS6.upd) ?_
  simp only [lastL_snoc]
  simp (disch := first | exact hne | assumption | omega) only [SX, SLX, BX, add_mk, Nat.reduceAdd]
  refine ⟨fun _ => ?_, fun h => absurd trivial h⟩
  refine st_call (sysRecords hS6 hI5.fit) ?_
  rintro u7 w7 ⟨hR7, hS7⟩
  refine st_same (hSg hS7.upd) ?_
  have hfr := frames_flat hI5.can.fr
  have hfl := hI5.fit.flat
  have hro5 := hI5.fit.room
  have hmo5 := hI5.fit.most
  have hle5 := hI5.fit.len
  refine st_call (rBytes_spec w7 u7 _ (fun x hx => by obtain ⟨y, hy, rfl⟩ := List.mem_map.1 hx; exact hI5.can.ok y hy) (by rw [List.length_map]; omega) (by rw [hfr, hfl]; omega) hR7) ?_
  rintro _ w8 ⟨rfl, hU8⟩
  have hS8 := hS7.ext hU8
  refine st_same (hSg hS8.upd) ?_
  rw [hfr]
  simp (disch := first | exact hne | assumption | omega) only [SX, SLX, BX, add_mk, Nat.reduceAdd, size_mk, w64]
  refine ⟨fun _ => fin_livesT (hU1.trans hS8.upd), fun h => absurd ?_ h⟩
  rw [hfl]
  omega
/-- what holds ahead of each step -/
def KeepI (w1 : World) (gd g2 : Addr) (N n m : Nat) (code : Int) (vs : List Value) (w' : World) : Prop := ∃ (i : Nat) (d' : Dv) (s' : Lg), vs.getD 0 undef = .int .i64 i ∧ i ≤ m ∧ Sys w1 (.pointer (some gd)) (.pointer (some g2)) d' s' w' ∧ Inv d' s' ∧ d'.B.length = N ∧ (code = 0 → n ≤ s'.kp)
theorem keeps_k5 {w1 : World} {N n m i : Nat} {gd g2 : Addr} {code : Int} {vs : List Value} (e0 : vs.getD 0 undef = .int .i64 i) (hi' : i < m) (hm : m ≤ 2 ^ 63 - 1) {w' : World} {d' : Dv} {s' : Lg} (hS' : Sys w1 (.pointer (some gd)) (.pointer (some g2)) d' s' w') (hI' : Inv d' s') (hL' : d'.B.length = N) (hk' : code = 0 → n ≤ s'.kp) {Q : Value → World → Prop} :
    flotillalaw09_WalKeeps_k5 (std Try.prog) (.pointer (some g2)) (.int .i64 (n : Nat)) (.bool (decide (code = 0))) vs (fun vs' w' => KeepI w1 gd g2 N n m code vs' w' ∧ m - (intOf (vs'.getD 0 undef)).toNat < m - (intOf (.int .i64 (i : Nat))).toNat) w' Q := by
  unfold flotillalaw09_WalKeeps_k5 flotillalaw09_WalKeeps_k6
  have K4 : ∀ (w' : World), Sys w1 (.pointer (some gd)) (.pointer (some g2)) d' s' w' → flotillalaw09_WalKeeps_k4 (std Try.prog) vs (fun vs' w' => KeepI w1 gd g2 N n m code vs' w' ∧ m - (intOf (vs'.getD 0 undef)).toNat < m - (intOf (.int .i64 (i : Nat))).toNat) w' Q := by
    intro w' hS'
    unfold flotillalaw09_WalKeeps_k4
    simp (disch := omega) only [e0, PX, w64]
    refine ⟨⟨i + 1, d', s', rfl, by omega, hS', hI', hL', hk'⟩, ?_⟩
    show m - (intOf (.int .i64 ((i : Int) + 1))).toNat < m - (intOf (.int .i64 (i : Nat))).toNat
    simp only [intOf]; omega
  refine st_call (sysRoom hS' hI'.fit) ?_
  rintro _ w9 ⟨rfl, hS9⟩
  have hro := hI'.fit.room
  simp (disch := omega) only [PX, BX]
  refine ⟨fun h => absurd h (by unfold roomL; omega), fun _ => ?_⟩
  refine st_call (sysKept hS9) ?_
  rintro _ w10 ⟨rfl, hS10⟩
  simp (disch := omega) only [PX, BX]
  refine ⟨fun h => absurd h (by omega), fun _ => ⟨fun hc0 => ?_, fun _ => K4 w10 hS10⟩⟩
  refine st_call (sysKept hS10) ?_
  rintro _ w11 ⟨rfl, hS11⟩
  simp (disch := omega) only [PX, BX]
  have := hk' hc0
  exact ⟨fun h => absurd h (by omega), fun _ => K4 w11 hS11⟩
theorem WalKeeps_spec (W : World) (size : Int) (hsz : in64 size) (va vr : Value) (ops : List WOp) (r : Re) (hops : RdOps W va ops) (hr : RdRe W vr r) (hs : shortR r) :
    CallsR Try.prog 5 #[.int .i64 size, va, vr] W fun u w' => u = .bool true ∧ Upd W w' [] := by
  unfold in64 at hsz
  apply flotillalaw09_WalKeeps_sound
  unfold flotillalaw09_WalKeeps_x flotillalaw09_WalKeeps_k1
  obtain ⟨vt, vd, rfl, ht, hd⟩ := hr
  refine st_box (Upd.refl W []) (Owns.nil W) ?_
  intro g w1 hU1 hO1 hg
  have hO1 : Owns w1 [(g, reO r vt vd)] := hO1
  refine st_call (sysNew (Upd.refl w1 []) size) ?_
  rintro _ w2 ⟨hU2, ⟨hn, rfl⟩ | ⟨hok, gd, rfl, hD⟩⟩
  · simp only [PX, BX]
    exact ⟨fun _ => fin_lives (hU1.trans hU2), fun h => absurd (by decide) h⟩
  simp (disch := omega) only [PX, BX]
  refine ⟨fun h => absurd rfl h, fun _ => ⟨fun _ => fin_lives (hU1.trans hU2), fun h1 => ⟨fun _ => fin_lives (hU1.trans hU2), fun h2 => ?_⟩⟩⟩
  have hO2 := hO1.ext hU2
  rw [step_run (run_re (hO2.at_ 0 rfl))]
  refine st_call (light_spec hs ⟨vt, vd, rfl, ht.mono (hU1.trans hU2), hd.mono (hU1.trans hU2)⟩) ?_
  rintro _ w3 ⟨rfl, hU3⟩
  have hU3' := hU2.trans hU3
  have hO3 := hO2.ext hU3
  have hD3 := hD.ext hU3
  simp only [PX, BX]
  refine ⟨fun hlr => ?_, fun _ => fin_lives (hU1.trans hU3')⟩
  rw [step_run (run_re (hO3.at_ 0 rfl))]
  refine st_call (May_spec w3 _ r ⟨by have := hlr.1; omega, by have := hlr.2.1; omega⟩ ⟨vt, vd, rfl, ht.mono (hU1.trans hU3'), hd.mono (hU1.trans hU3')⟩) ?_
  rintro _ w4 ⟨rfl, hU4⟩
  have hU4' := hU3'.trans hU4
  have hO4 := hO3.ext hU4
  have hD4 := hD3.ext hU4
  simp only [PX, BX]
  refine ⟨fun hrok => ?_, fun _ => fin_lives (hU1.trans hU4')⟩
  obtain ⟨N, rfl⟩ : ∃ N : Nat, size = N := ⟨size.toNat, by omega⟩
  rw [Int.toNat_natCast] at hD4
  have hat : At (newD N) 3 [] := At.new (by unfold sizeOk at hok; omega) (by omega) (by omega) (by decide)
  refine st_call (sysOpen hD4 hat.dok 3) ?_
  rintro _ w5 (⟨hn, _⟩ | ⟨_, g2, rfl, hS⟩)
  · exact absurd hat.openE hn
  have hI := hat.inv
  rw [hat.openS] at hS hI
  simp only [PX, BX]
  refine ⟨fun h => absurd rfl h, fun _ => ?_⟩
  have hO5 := hO1.ext hS.upd
  rw [step_run (run_re (hO5.at_ 0 rfl))]
  refine st_call (rFrame_spec w5 _ r hrok ⟨vt, vd, rfl, ht.mono (hU1.trans hS.upd), hd.mono (hU1.trans hS.upd)⟩) ?_
  rintro _ w6 ⟨rfl, hU6⟩
  have hS6 := hS.ext hU6
  simp only [PX, size_mk]
  generalize hnn : (frB r).length = n
  have hlen : (newD N).B.length = N := by simp [newD]
  refine st_call (sysKeep hS6 hI.fit (n : Nat) (by omega)) ?_
  have hI7 := hI.keep (m := (n : Nat))
  have hro : roomL (newD N).B.length ⟨3, [], (flatB []).length, ([] : List En).length, 0, 0, false, 0⟩ = (N : Int) - 64 := by unfold roomL; rw [hlen]; simp [flatB]
  have hkp : (keepL (newD N).B.length ⟨3, [], (flatB []).length, ([] : List En).length, 0, 0, false, 0⟩ (n : Nat)).2 = 0 → n ≤ (keepL (newD N).B.length ⟨3, [], (flatB []).length, ([] : List En).length, 0, 0, false, 0⟩ (n : Nat)).1.kp := by
    unfold keepL
    rw [if_neg (by omega)]
    split
    · intro h; cases h
    · intro _; simp only; omega
  have hkc : (keepL (newD N).B.length ⟨3, [], (flatB []).length, ([] : List En).length, 0, 0, false, 0⟩ (n : Nat)).2 = 0 ↔ (n : Int) ≤ (N : Int) - 64 := by
    unfold keepL
    rw [if_neg (by omega), hro]
    split
    · constructor
      · intro h; cases h
      · intro h; omega
    · constructor
      · intro _; omega
      · intro _; rfl
  generalize keepL (newD N).B.length ⟨3, [], (flatB []).length, ([] : List En).length, 0, 0, false, 0⟩ (n : Nat) = y at hI7 hkp hkc ⊢
  obtain ⟨s7, code⟩ := y
  simp only at hI7 hkp hkc ⊢
  rintro _ w7 ⟨rfl, hS7⟩
  simp (disch := omega) only [PX, BX, w64]
  rw [show (decide (code = 0) == decide ((n : Int) ≤ (N : Int) - 64)) = true from by rw [beq_iff_eq, decide_eq_decide]; exact hkc]
  simp only [BX]
  obtain ⟨A, c, rfl, hm, hE⟩ := hops
  unfold maxLen at hm
  refine st_loop (KeepI w1 gd g2 N n ops.length code) (fun vs _ => ops.length - (intOf (vs.getD 0 undef)).toNat) ⟨0, newD N, s7, rfl, Nat.zero_le _, hS7, hI7, hlen, hkp⟩ ?_
  rintro dv vs w8 - ⟨i, d8, s8, e0, hi, hS8, hI8, hL8, hk8⟩
  simp (disch := omega) only [e0, PX, BX]
  refine ⟨fun hlt => ⟨fun h60 => ?_, fun _ => keeps_end hU1 hO1 ht hd hrok hnn (by omega) hS8 hI8 hL8 hk8⟩, fun _ => keeps_end hU1 hO1 ht hd hrok hnn (by omega) hS8 hI8 hL8 hk8⟩
  have hi' : i < ops.length := by omega
  obtain ⟨hn64, hsh, a, xt, xd, rfl, hc, rt, rd⟩ := hE i hi'
  have hst : ∀ {w'}, Upd w1 w' [] → StepAt w' (a.add (i * 15)) ops[i] xt xd := fun hu => (StepAt.of hc).mono (hU1.trans hu)
  have hre : ∀ {w'}, Upd w1 w' [] → RdRe w' (.agg (reV ops[i].r xt xd).toArray) ops[i].r := fun hu => ⟨xt, xd, rfl, rt.mono (hU1.trans hu), rd.mono (hU1.trans hu)⟩
  simp (disch := first | assumption | omega) only [PX]
  rw [step_run (run_reN (hst hS8.upd).re)]
  refine st_call (light_spec hsh (hre hS8.upd)) ?_
  rintro _ w9 ⟨rfl, hU9⟩
  have hS9 := hS8.ext hU9
  simp (disch := first | assumption | omega) only [PX, BX]
  refine ⟨fun hli => ?_, fun _ => fin_lives (hU1.trans hS9.upd)⟩
  have ck := (hst hS9.upd).kind
  have cn := (hst hS9.upd).n
  simp (disch := first | assumption | omega) only [PX, LX, BX]
  refine ⟨fun _ => ?_, fun _ => ⟨fun _ => ?_, fun _ => ⟨fun _ => ?_, fun _ => ⟨fun _ => ?_, fun _ => keeps_k5 e0 hi' hm hS9 hI8 hL8 hk8⟩⟩⟩⟩
  · rw [step_run (run_reN (hst hS9.upd).re)]
    refine st_call (sysAppend hS9 hI8.fit (hre hS9.upd)) ?_
    rintro _ w10 ⟨-, hS10⟩
    exact keeps_k5 e0 hi' hm hS10 (hI8.join (Int.le_refl _)) hL8 (by rw [joinL_kp]; exact hk8)
  · refine st_call (sysKeep hS9 hI8.fit _ hn64.1) ?_
    rintro _ w10 ⟨-, hS10⟩
    exact keeps_k5 e0 hi' hm hS10 hI8.keep hL8 (fun h => Nat.le_trans (hk8 h) (keepL_kp _ _ _))
  · refine st_call (sysForce hS9 hI8.dok hI8.fit) ?_
    rintro _ w10 ⟨-, hS10⟩
    obtain ⟨-, hI10, hB10, hs10⟩ := hI8.force
    refine keeps_k5 e0 hi' hm hS10 hI10 (by rw [hB10]; exact hL8) (fun h => ?_)
    rw [hs10]
    split
    · exact hk8 h
    · exact hk8 h
  · refine st_call (sysDone hS9 hI8.dok hI8.fit) ?_
    rintro _ w10 ⟨-, hS10⟩
    obtain ⟨hI10, hB10, hs10, -⟩ := hI8.done
    refine keeps_k5 e0 hi' hm hS10 hI10 (by rw [hB10]; exact hL8) (fun h => ?_)
    rw [hs10]
    split
    · exact hk8 h
    · split
      · exact hk8 h
      · exact hk8 h
end Go.Proofs.Ytplpjikcgheiiaa.Wal
