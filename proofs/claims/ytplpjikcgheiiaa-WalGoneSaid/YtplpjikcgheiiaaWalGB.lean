/- WalGone: the whole. -/
import Derived.Test.YtplpjikcgheiiaaWalGA
namespace Go.Proofs.Ytplpjikcgheiiaa.Wal
open Go Go.Proofs.Ytplpjikcgheiiaa Go.Proofs.Ytplpjikcgheiiaa.Rec Xf Go.RowKit Go.ChangeShapes Go.WideShapes Go.Deep
set_option linter.unusedVariables false
set_option linter.unusedSimpArgs false
set_option maxRecDepth 100000

theorem gone_k2 {W w : World} {gd g2 : Addr} {va : Value} {h : List (Nat × Obj)} {d : Dv} {s : Lg} (hS : SysF W h (.pointer (some gd)) (.pointer (some g2)) d s w) (hI : Inv d s) (ha : AllH W va (s.L.map (·.r)) h) :
    flotillalaw09_WalGone_k2 (std Try.prog) (.pointer (some g2)) va w fun u w' => u = .bool true ∧ Upd W w' [] := by
  unfold flotillalaw09_WalGone_k2
  refine st_call (fRecords hS hI.fit) ?_
  rintro u w2 ⟨hU2, hN, hS2⟩
  refine st_call (SameRecords_spec w2 _ _ _ _ hN.rd (ha.rd hS2.upd hS2.owns)) ?_
  rintro _ w3 ⟨rfl, hU3⟩
  rw [decide_eq_true rfl]
  simp only [BX]
  exact torn_lives (hS2.upd.trans hU3)
theorem ze_op : (Try.prog.info? 43).bind (·.zero) = some (.agg (woV ⟨0, 0, 0, re0⟩ nilS nilS).toArray) := by kernel_rfl
theorem WalGone_spec (W : World) (size : Int) (hsz : in64 size) (va : Value) (ops : List WOp) (hops : RdOps W va ops) :
    CallsR Try.prog 3 #[.int .i64 size, va] W fun u w' => u = .bool true ∧ Upd W w' [] := by
  unfold in64 at hsz
  apply flotillalaw09_WalGone_sound
  unfold flotillalaw09_WalGone_x flotillalaw09_WalGone_k1
  refine st_call (sysNew (Upd.refl W []) size) ?_
  rintro _ w2 ⟨hU2, ⟨hn, rfl⟩ | ⟨hok, gd, rfl, hD⟩⟩
  · simp only [PX, BX]
    exact ⟨fun _ => torn_lives hU2, fun h => absurd (by decide) h⟩
  unfold sizeOk at hok
  obtain ⟨N, rfl⟩ : ∃ N : Nat, size = N := ⟨size.toNat, by omega⟩
  rw [Int.toNat_natCast] at hD
  simp (disch := omega) only [PX, BX]
  refine ⟨fun h => absurd rfl h, fun _ => ⟨fun _ => torn_lives hD.upd, fun h1 => ⟨fun _ => torn_lives hD.upd, fun h2 => ?_⟩⟩⟩
  have hat : At (newD N) 2 [] := At.new (by omega) (by omega) (by omega) (by decide)
  refine st_call (sysOpen hD hat.dok 2) ?_
  rintro _ w3 (⟨hne, -⟩ | ⟨-, g2, rfl, hS⟩)
  · exact absurd hat.openE hne
  have hI := hat.inv
  rw [hat.openS] at hS hI
  simp (disch := omega) only [PX, BX]
  refine ⟨fun h => absurd rfl h, fun _ => ?_⟩
  obtain ⟨A, c, rfl, hm, hE⟩ := hops
  unfold maxLen at hm
  refine st_loop (GoneI W gd ops.length) (fun vs _ => ops.length - (intOf (vs.getD 2 undef)).toNat) ⟨0, g2, .slice none 0 0, [], _, _, rfl, rfl, rfl, Nat.zero_le _, SysF.of hS, hI, rfl, AllH.nil W, fun p hp => by cases hp⟩ ?_
  rintro dv vs w8 - ⟨i, g3, va, h, d8, s8, e0, e1, e2, hi, hS8, hI8, hh8, ha8, hf8⟩
  simp (disch := omega) only [e2, PX, BX]
  refine ⟨fun hlt => ⟨fun h60 => ?_, fun _ => ?_⟩, fun _ => ?_⟩
  rotate_left
  · rw [e0, e1]; exact gone_k2 hS8 hI8 ha8
  · rw [e0, e1]; exact gone_k2 hS8 hI8 ha8
  have hi' : i < ops.length := by omega
  obtain ⟨hn64, hsh, a, xt, xd, rfl, hc, rt, rd⟩ := hE i hi'
  simp (disch := first | assumption | omega) only [PX]
  have hc8 : ∀ j u, (woV ops[i] xt xd)[j]? = some u → w8.cell? ((a.add (i * 15)).add j) = some u := fun j u hu => by
    have := hc j u hu
    rw [hS8.upd.cell (World.block_lt_of_cell? W _ this) (by simp)]; exact this
  rw [step_run (run_sLoad (run_loadVarN (cs := woV ops[i] xt xd) ag43 (by rw [sz43]; rfl) hc8))]
  obtain ⟨rest, hO8, hU8, hback⟩ := hS8.frame
  refine st_alloc ze_op hU8 hO8 ?_
  intro g9 w9 hU9 hO9 hg9
  have hO9 : Owns w9 ((g9, .cells (woV ⟨0, 0, 0, re0⟩ nilS nilS).toArray 43 (0, 0)) :: (h ++ rest)) := hO9
  refine st_storeN (vs := woV ops[i] xt xd) (by rw [sz43]; rfl) hU9 hO9 0 rfl (Nat.le_refl _) (woV_one _ (rdS_one rt) (rdS_one rd)) (.inr hg9) ?_
  intro w10 hU10 hO10
  have hO10 : Owns w10 (((g9, .cells (woV ops[i] xt xd).toArray 43 (0, 0)) :: h) ++ rest) := hO10
  have hS10 := hback hU10 hO10
  have hld : (sLoad 41 (.pointer (some ⟨g9, 3, none⟩))).run Try.prog w10 = .ok (.value (.agg (reV ops[i].r xt xd).toArray)) w10 := run_reN fun j u hu => by
    have hj : j < 12 := by have := (List.getElem?_eq_some_iff.1 hu).1; rwa [reV_len] at this
    have := cells_read (hO10.at_ 0 rfl) (j + 3) u (by unfold woV; simpa using hu)
    rw [add_mk] at this ⊢
    rwa [show 3 + j = 0 + (j + 3) by omega]
  simp (disch := first | assumption | omega) only [PX, add_mk, Nat.reduceAdd]
  rw [step_run hld]
  refine st_call (light_spec hsh ⟨xt, xd, rfl, rt.mono hU10, rd.mono hU10⟩) ?_
  rintro _ w11 ⟨rfl, hU11⟩
  have hS11 := hS10.ext hU11
  have ck : w11.cell? ⟨g9, 0, none⟩ = some (.int .i64 ops[i].kind) := (cell_at ((hS11.owns).at_ 0 rfl)).trans rfl
  simp (disch := first | assumption | omega) only [PX, LX, BX, add_mk, Nat.reduceAdd]
  refine ⟨fun hli => ⟨fun _ => gone_k4 e0 e1 e2 hi' hm rt rd hS11 hI8 hh8 ha8 hf8, fun _ => gone_k4 e0 e1 e2 hi' hm rt rd hS11 hI8 hh8 ha8 hf8⟩, fun _ => torn_lives hS11.upd⟩
end Go.Proofs.Ytplpjikcgheiiaa.Wal
