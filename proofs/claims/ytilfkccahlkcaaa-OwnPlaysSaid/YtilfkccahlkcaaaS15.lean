/- OwnEnds. -/
import Derived.Test.YtilfkccahlkcaaaT4
namespace Go.Proofs.Ytilfkccahlkcaaa
open Go Xf Go.RowKit Go.WideShapes
set_option linter.unusedVariables false
set_option linter.unusedSimpArgs false
set_option maxRecDepth 100000

theorem st_apo {W w : World} {F h ho : List (Nat × Obj)} {gb : Nat} {xs : List Lf} {v u : Value} {calls os : List Od} {K : Value → World → Prop} (hB : Bk W (ho ++ (h ++ F)) gb xs w) (hr : OrdR v calls h) (hu : OrdR u os ho) (hn : calls.length + os.length ≤ 5000) (hh : ∀ q ∈ h, W.heap.size ≤ q.1)
    (hk : ∀ v' w' h', OrdR v' (calls ++ os) h' → Bk W (h' ++ F) gb xs w' → (∀ q ∈ h', W.heap.size ≤ q.1) → K v' w') : (std Try.prog).step (sBuiltin .append #[33, 33] 33 [false, false] [v, u]) w K := by
  have hrd : RdO w u os := hu.rd hB.F
  obtain ⟨R, hO, hcl⟩ := (hB.perm (List.perm_append_comm_assoc ho h F)).open
  rw [List.append_assoc] at hO
  obtain ⟨inf, hi1, hz1, hs, hb⟩ := inf46
  refine st_append (ks := []) u33 hi1 hz1 hs hb rfl (by omega) hr hO hB.upd (fun q hq => .inr (hh q hq)) hrd (odV_one _) (by unfold maxLen; omega) (by omega) ?_
  intro v3 w3 h3 hr3 hO3 hU3 hh3
  refine hk v3 w3 h3 ?_ (hcl _ w3 (hO3.sub ?_) hU3) fun q hq => (hh3 q hq).resolve_left (by simp)
  · unfold OrdR
    rw [List.length_append, List.flatMap_append]
    exact hr3
  · rw [List.append_assoc]
    refine List.Sublist.append (List.Sublist.refl _) ?_
    rw [List.append_assoc]
    exact List.sublist_append_right _ _

theorem OwnEnds_spec (w : World) {vo : Value} {ops : List Op3} (hops : RdS w opV 3 vo ops) (pages : Int) :
    CallsR Try.prog 5 #[.int .i64 pages, vo] w fun r w' => r = .bool true ∧ Upd w w' [] := by
  apply flotillalaw20_OwnEnds_sound
  unfold flotillalaw20_OwnEnds_x
  have liv : ∀ w', Upd w w' [] → (std Try.prog).calls 9 #[] w' fun v w2 => v = .bool true ∧ Upd w w2 [] := fun w' hU => st_call (lives_spec w') fun v w2 h => ⟨h.1, hU.trans h.2⟩
  obtain ⟨Ao, co, rfl, hmo, _⟩ := id hops
  refine st_call (New_spec (F := []) (fl := []) (Upd.refl w []) (Owns.nil w) (fun w' hU' _ => Rd.nil_ _ _) pages) ?_
  intro r w1 hr
  unfold NewR at hr
  split at hr
  · obtain ⟨rfl, hU1, _⟩ := hr
    simp (disch := omega) only [PX, NP, BX]
    exact ⟨fun _ => liv w1 hU1, fun h => absurd (by decide) h⟩
  rename_i hpg
  obtain ⟨gb, rfl, hB0⟩ := hr
  simp (disch := omega) only [PX, NP, BX]
  refine ⟨fun h => absurd rfl h, fun _ => ?_⟩
  obtain ⟨pn, rfl⟩ : ∃ n : Nat, pages = n := ⟨pages.toNat, by omega⟩
  rw [Int.toNat_natCast] at hB0
  -- at last nobody waits
  have k3 : ∀ (xs : List Lf) (F : List (Nat × Obj)) (w' : World), Inv xs → xs.length = pn → Bk w F gb xs w' → (∀ p : Nat, p < pn → (lfAt xs (p : Int)).waits = [] ∧ (lfAt xs (p : Int)).lost = false) → flotillalaw20_OwnEnds_k3 (std Try.prog) (.int .i64 (pn : Nat)) (.pointer (some ⟨gb, 0, none⟩)) w' fun r w' => r = .bool true ∧ Upd w w' [] := by
    intro xs F w' hI hxl hB hall
    unfold flotillalaw20_OwnEnds_k3
    refine st_loop (fun vs w' => ∃ i : Nat, i ≤ pn ∧ vs.getD 0 undef = .int .i64 i ∧ Bk w F gb xs w') (fun vs _ => pn - (intOf (vs.getD 0 undef)).toNat) ⟨0, by omega, rfl, hB⟩ ?_
    clear hB
    rintro dv vs w2 - ⟨i, hi, e0, hB⟩
    simp (disch := omega) only [e0, PX, BX, flotillalaw20_OwnEnds_k4]
    refine ⟨fun hlt => ?_, fun hge => liv w2 hB.upd⟩
    obtain ⟨q1, q2⟩ := hall i (by omega)
    refine st_call (Waits_spec hB hI.n900 (i : Int)) ?_
    rintro r w3 ⟨hr, hrow, hB3, _⟩
    rw [q1] at hrow
    obtain ⟨A, c, rfl, _⟩ := hrow.rd hB3.F
    simp (disch := omega) only [PX, BX]
    refine ⟨fun h => absurd h (by simp), fun _ => ?_⟩
    refine st_call (Lost_spec hB3 (i : Int)) ?_
    rintro _ w4 ⟨rfl, he⟩
    subst w4
    rw [q2]
    simp (disch := omega) only [PX, BX, e0, w64]
    refine ⟨⟨i + 1, by omega, rfl, hB3.drop⟩, ?_⟩
    simp only [List.getD_cons_zero, intOf]; omega
  -- who is called hands over
  have k2 : ∀ (xs : List Lf) (calls : List Od) (h : List (Nat × Obj)) (v : Value) (w' : World), Inv xs → xs.length = pn → lostA xs = List.replicate 16 false → Cov 0 xs calls → WFo calls → calls.length + 2 * total xs ≤ 1000 → OrdR v calls h → Bk w (h ++ []) gb xs w' → (∀ q ∈ h, w.heap.size ≤ q.1) →
      flotillalaw20_OwnEnds_k2 (std Try.prog) (.int .i64 (pn : Nat)) (.pointer (some ⟨gb, 0, none⟩)) v w' fun r w' => r = .bool true ∧ Upd w w' [] := by
    intro xs calls h v w' hI hxl hlo hC hW hT hr hB hh
    unfold flotillalaw20_OwnEnds_k2
    refine st_loop (fun vs w' => ∃ (i : Nat) (xs : List Lf) (calls : List Od) (h : List (Nat × Obj)), i ≤ calls.length ∧ vs.getD 1 undef = .int .i64 i ∧ Inv xs ∧ xs.length = pn ∧ lostA xs = List.replicate 16 false ∧ Cov i xs calls ∧ WFo calls ∧ calls.length + 2 * total xs ≤ 1000 ∧ OrdR (vs.getD 0 undef) calls h ∧ Bk w (h ++ []) gb xs w' ∧ (∀ q ∈ h, w.heap.size ≤ q.1))
      (fun vs _ => 2000 - (intOf (vs.getD 1 undef)).toNat) ⟨0, xs, calls, h, by omega, rfl, hI, hxl, hlo, hC, hW, hT, hr, hB, hh⟩ ?_
    clear hI hxl hlo hC hW hT hr hB hh
    clear xs calls h
    rintro dv vs w2 - ⟨i, xs, calls, h, hi, e1, hI, hxl, hlo, hC, hW, hT, hr, hB, hh⟩
    obtain ⟨A, c, ev⟩ := (hr.rd hB.F).len
    simp (disch := omega) only [e1, ev, PX, BX]
    have out : ¬ ((i : Int) < (calls.length : Int)) → flotillalaw20_OwnEnds_k3 (std Try.prog) (.int .i64 (pn : Nat)) (.pointer (some ⟨gb, 0, none⟩)) w2 fun r w' => r = .bool true ∧ Upd w w' [] := by
      intro hge
      have : i = calls.length := by omega
      subst this
      refine k3 xs _ w2 hI hxl hB fun p hp => ?_
      have hlp : (lfAt xs (p : Int)).lost = false := by
        have h16 := hI.1
        have := lostA_at xs (p := p) (by omega)
        rw [hlo, List.getElem?_replicate, if_pos (by omega)] at this
        injection this with this
        exact this.symm
      exact ⟨ends_last hI hC (by omega) hlp, hlp⟩
    refine ⟨fun hlt => ⟨fun h2000 => ?_, fun hn => absurd (by omega) hn⟩, out⟩
    have hlt' : i < calls.length := by omega
    have hri := List.getElem?_eq_getElem hlt'
    let S : World → Prop := fun w' => Owns w' (h ++ [])
    have hx0 : ∃ a, A = some a ∧ ∀ w', S w' → ∀ (q : Nat) (u : Value), (odV calls[i])[q]? = some u → w'.cell? ((a.add (i * 5)).add q) = some u := by
      obtain ⟨a, c, he, _⟩ := ord_at (hr.rd hB.F) hlt'
      rw [ev] at he
      injection he with he _ _
      refine ⟨a, he, fun w' hs q u hu => ?_⟩
      obtain ⟨a', c', he', hx⟩ := ord_at (hr.rd hs) hlt'
      rw [ev] at he'
      injection he' with he' _ _
      rw [he] at he'
      injection he' with he'
      rw [he']; exact hx q u hu
    obtain ⟨a, rfl, hx0⟩ := hx0
    generalize hoe : calls[i] = o at *
    have d0 : ∀ w', S w' → w'.cell? (a.add (i * 5)) = some (.int .i64 o.kind) := fun w' h => hx0 w' h 0 (.int .i64 o.kind) rfl
    have d1 : ∀ w', S w' → w'.cell? ((a.add (i * 5)).add 1) = some (.int .i64 o.page) := fun w' h => hx0 w' h 1 (.int .i64 o.page) rfl
    have d2 : ∀ w', S w' → w'.cell? ((a.add (i * 5)).add 2) = some (.int .i64 o.src) := fun w' h => hx0 w' h 2 (.int .i64 o.src) rfl
    have hB2 : Bk w (h ++ []) gb xs w2.drew := hB.ext (Upd.drew w2 [])
    have hS : S w2.drew := hB2.F
    have hne : ∃ w', S w' := ⟨_, hS⟩
    have next : ∀ (xs' : List Lf) (calls' : List Od) (h' : List (Nat × Obj)) (v' : Value) (w' : World), i + 1 ≤ calls'.length → Inv xs' → xs'.length = pn → lostA xs' = List.replicate 16 false → Cov (i + 1) xs' calls' → WFo calls' → calls'.length + 2 * total xs' ≤ 1000 → OrdR v' calls' h' → Bk w (h' ++ []) gb xs' w' → (∀ q ∈ h', w.heap.size ≤ q.1) →
        flotillalaw20_OwnEnds_k5 (std Try.prog) vs (fun vs' w' => (∃ (i : Nat) (xs : List Lf) (calls : List Od) (h : List (Nat × Obj)), i ≤ calls.length ∧ vs'.getD 1 undef = .int .i64 i ∧ Inv xs ∧ xs.length = pn ∧ lostA xs = List.replicate 16 false ∧ Cov i xs calls ∧ WFo calls ∧ calls.length + 2 * total xs ≤ 1000 ∧ OrdR (vs'.getD 0 undef) calls h ∧ Bk w (h ++ []) gb xs w' ∧ (∀ q ∈ h, w.heap.size ≤ q.1)) ∧ 2000 - (intOf (vs'.getD 1 undef)).toNat < 2000 - (intOf (Value.int .i64 (i : Int))).toNat) v' w' fun r w' => r = .bool true ∧ Upd w w' [] := by
      intro xs' calls' h' v' w' g1 g2 g3 g4 g5 g6 g7 g8 g9 g10
      unfold flotillalaw20_OwnEnds_k5
      simp (disch := omega) only [e1, PX, w64]
      refine ⟨⟨i + 1, xs', calls', h', g1, rfl, g2, g3, g4, g5, g6, g7, g8, g9, g10⟩, ?_⟩
      simp only [List.getD_cons_zero, List.getD_cons_succ, intOf]; omega
    rw [ev] at hr
    refine st_draw S hS ?_
    simp (disch := first | assumption | omega) only [SX, SLX, BX]
    refine ⟨fun hk => ?_, fun hk => next xs calls h _ _ (by omega) hI hxl hlo (ends_skip hri hC (fun h => hk h.1)) hW hT hr hB2 hh⟩
    refine st_call (Owner_spec hB2 o.page) ?_
    rintro _ w3 ⟨rfl, he⟩
    subst w3
    refine st_same hS ?_
    simp (disch := first | assumption | omega) only [SX, SLX, BX]
    refine ⟨fun hs => ?_, fun hs => next xs calls h _ _ (by omega) hI hxl hlo (ends_skip hri hC (fun h => hs h.2)) hW hT hr hB2 hh⟩
    have hB3 : Bk w (h ++ []) gb xs w2.drew.drew := hB2.ext (Upd.drew _ [])
    have hS3 : S w2.drew.drew := hB3.F
    refine st_draw S hS3 ?_
    simp (disch := first | assumption | omega) only [SX, SLX, BX]
    refine st_call (Back_spec hB3 hI.n900 o.page o.src) ?_
    rintro _ w6 ⟨ro, ho, rfl, hor, hB6, hho⟩
    obtain ⟨m1, m2, m3, m4, m5, m6, m7⟩ := ends_back hI hri hW hC hk hs
    refine st_keepT (fun _ => True) trivial ?_
    have hneT : ∃ w', (fun _ : World => True) w' := ⟨w6, trivial⟩
    rw [m1]
    simp (disch := first | assumption | omega) only [SX, PX, BX]
    refine ⟨fun h => absurd rfl h, fun _ => ?_⟩
    have hlen : (calls ++ (backL xs o.page o.src).2.1).length = calls.length + (backL xs o.page o.src).2.1.length := List.length_append
    refine st_apo hB6 hr hor (by omega) hh ?_
    intro v' w' h' hr' hB' hh'
    exact next _ _ h' v' w' (by omega) m2 (by rw [m3, hxl]) (by rw [m4, hlo]) m6 m5 (by omega) hr' hB' hh'
  -- all that is lost is mended
  have k1 : ∀ (xs : List Lf) (calls : List Od) (h : List (Nat × Obj)) (v : Value) (w' : World), Inv xs → xs.length = pn → Cov 0 xs calls → WFo calls → calls.length ≤ 160 → OrdR v calls h → Bk w (h ++ []) gb xs w' → (∀ q ∈ h, w.heap.size ≤ q.1) →
      flotillalaw20_OwnEnds_k1 (std Try.prog) (.int .i64 (pn : Nat)) (.pointer (some ⟨gb, 0, none⟩)) v w' fun r w' => r = .bool true ∧ Upd w w' [] := by
    intro xs calls h v w' hI hxl hC hW hT hr hB hh
    unfold flotillalaw20_OwnEnds_k1
    refine st_loop (fun vs w' => ∃ (i : Nat) (xs : List Lf) (calls : List Od) (h : List (Nat × Obj)), i ≤ pn ∧ vs.getD 1 undef = .int .i64 i ∧ Inv xs ∧ xs.length = pn ∧ (∀ p : Nat, p < i → (lfAt xs (p : Int)).lost = false) ∧ Cov 0 xs calls ∧ WFo calls ∧ calls.length ≤ 160 + 2 * i ∧ OrdR (vs.getD 0 undef) calls h ∧ Bk w (h ++ []) gb xs w' ∧ (∀ q ∈ h, w.heap.size ≤ q.1))
      (fun vs _ => pn - (intOf (vs.getD 1 undef)).toNat) ⟨0, xs, calls, h, by omega, rfl, hI, hxl, fun p hp => by omega, hC, hW, by omega, hr, hB, hh⟩ ?_
    clear hI hxl hC hW hT hr hB hh
    clear xs calls h
    rintro dv vs w2 - ⟨i, xs, calls, h, hi, e1, hI, hxl, hlo, hC, hW, hT, hr, hB, hh⟩
    simp (disch := omega) only [e1, PX, BX]
    refine ⟨fun hlt => ?_, fun hge => ?_⟩
    · have hlt' : i < pn := by omega
      have next : ∀ (xs' : List Lf) (calls' : List Od) (h' : List (Nat × Obj)) (v' : Value) (w' : World), Inv xs' → xs'.length = pn → (∀ p : Nat, p < i + 1 → (lfAt xs' (p : Int)).lost = false) → Cov 0 xs' calls' → WFo calls' → calls'.length ≤ 160 + 2 * (i + 1) → OrdR v' calls' h' → Bk w (h' ++ []) gb xs' w' → (∀ q ∈ h', w.heap.size ≤ q.1) →
          flotillalaw20_OwnEnds_k6 (std Try.prog) vs (fun vs' w' => (∃ (i : Nat) (xs : List Lf) (calls : List Od) (h : List (Nat × Obj)), i ≤ pn ∧ vs'.getD 1 undef = .int .i64 i ∧ Inv xs ∧ xs.length = pn ∧ (∀ p : Nat, p < i → (lfAt xs (p : Int)).lost = false) ∧ Cov 0 xs calls ∧ WFo calls ∧ calls.length ≤ 160 + 2 * i ∧ OrdR (vs'.getD 0 undef) calls h ∧ Bk w (h ++ []) gb xs w' ∧ (∀ q ∈ h, w.heap.size ≤ q.1)) ∧ pn - (intOf (vs'.getD 1 undef)).toNat < pn - (intOf (Value.int .i64 (i : Int))).toNat) v' w' fun r w' => r = .bool true ∧ Upd w w' [] := by
        intro xs' calls' h' v' w' g2 g3 g4 g5 g6 g7 g8 g9 g10
        unfold flotillalaw20_OwnEnds_k6
        simp (disch := omega) only [e1, PX, w64]
        refine ⟨⟨i + 1, xs', calls', h', by omega, rfl, g2, g3, g4, g5, g6, g7, g8, g9, g10⟩, ?_⟩
        simp only [List.getD_cons_zero, List.getD_cons_succ, intOf]; omega
      refine st_call (Lost_spec hB (i : Int)) ?_
      rintro _ w3 ⟨rfl, he⟩
      subst w3
      rw [bool_var]
      refine ⟨fun hl => ?_, fun hl => next xs calls h _ w2 hI hxl (fun p hp => ?_) hC hW (by omega) hr hB hh⟩
      rotate_left
      · by_cases he : p = i
        · rw [he]; exact hl
        · exact hlo p (by omega)
      refine st_call (Mend_spec hB hI.n900 (i : Int)) ?_
      rintro _ w6 ⟨ro, ho, rfl, hor, hB6, hho⟩
      obtain ⟨q1, q2, q3, q4⟩ := mend_law hI (i : Int)
      have hmc := mend_cov hI hC (i : Int)
      have hcnt := mend_count xs (i : Int)
      have hg := turn_mend hI (p := i) (by omega) hl
      simp only [PX]
      refine st_apo hB6 hr hor (by omega) hh ?_
      intro v' w' h' hr' hB' hh'
      refine next _ _ h' v' w' q1 (by rw [q2, hxl]) (fun p hp => ?_) hmc.1 (hW.append hmc.2) (by rw [List.length_append]; omega) hr' hB' hh'
      by_cases he : p = i
      · rw [he]; exact hg.2.1.2.2.2
      · have h16 := hI.1
        rcases q4 with ⟨r1, _⟩ | ⟨_, i', hi', _, _, hla⟩
        · exact absurd hg.1 r1
        · have hii : i' = i := by omega
          subst hii
          have h1 := lostA_at (mendL xs (i' : Int)).1 (p := p) (by omega)
          rw [hla, List.getElem?_set_ne (by omega), lostA_at xs (by omega)] at h1
          injection h1 with h1
          rw [← h1]; exact hlo p (by omega)
    · have : i = pn := by omega
      subst this
      have h16 := hI.1
      refine k2 xs calls h _ w2 hI hxl ?_ hC hW ?_ hr hB hh
      · apply List.ext_getElem (by simp [lostA])
        intro j h1 h2
        have hj : j < 16 := by rw [lostA_len] at h1; exact h1
        have := lostA_at xs hj
        rw [List.getElem?_eq_getElem h1] at this
        injection this with this
        rw [this, List.getElem_replicate]
        by_cases hji : j < i
        · exact hlo j hji
        · rw [lfAt_out (by omega)]; rfl
      · have := total_le hI.2
        omega
  refine st_loop (fun vs w' => ∃ (i : Nat) (xs : List Lf) (calls : List Od) (h : List (Nat × Obj)), i ≤ ops.length ∧ i ≤ 80 ∧ vs.getD 1 undef = .int .i64 i ∧ Inv xs ∧ xs.length = pn ∧ Cov 0 xs calls ∧ WFo calls ∧ calls.length ≤ 2 * i ∧ OrdR (vs.getD 0 undef) calls h ∧ Bk w (h ++ []) gb xs w' ∧ (∀ q ∈ h, w.heap.size ≤ q.1)) (fun vs _ => ops.length - (intOf (vs.getD 1 undef)).toNat)
    ⟨0, newL pn [], [], [], by omega, by omega, rfl, Inv.new (by omega) [], newL_len _ _, ?_, fun o ho => (by cases ho), by simp, ordR_nil, hB0, fun q hq => by cases hq⟩ ?_
  · intro p hp hc
    rw [newL_len] at hp
    rw [lfAt_new (by omega) (by omega)] at hc
    cases hc
  clear hB0
  rintro dv vs w4 - ⟨i, xs, calls, h, hi, hi80, e1, hI, hxl, hC, hW, hT, hr, hB, hh⟩
  simp (disch := omega) only [e1, PX, BX]
  have out := k1 xs calls h (vs.getD 0 undef) w4 hI hxl hC hW (by omega) hr hB hh
  refine ⟨fun hlt => ⟨fun h80 => ?_, fun _ => out⟩, fun _ => out⟩
  have hlt' : i < ops.length := by omega
  obtain ⟨a, ca, he, hcell⟩ := op_cells hops hlt'
  injection he with he1 _ _
  subst he1
  generalize ops[i] = o at *
  obtain ⟨c0, c1, c2⟩ := hcell w4 hB.upd
  have hne : ∃ w', Upd w w' [] := ⟨_, hB.upd⟩
  have d1 : ∀ w', Upd w w' [] → w'.cell? ((a.add (i * 3)).add 1) = some (.int .i64 o.page) := fun w' h => (hcell w' h).2.1
  have d2 : ∀ w', Upd w w' [] → w'.cell? ((a.add (i * 3)).add 2) = some (.int .i64 o.inst) := fun w' h => (hcell w' h).2.2
  have hBd : Bk w (h ++ []) gb xs w4.drew := hB.ext (Upd.drew w4 [])
  obtain ⟨p1, p2, p3⟩ := play_cov hI hC hW o
  obtain ⟨p4, p5⟩ := play_inv hI o
  have next : ∀ (pl : List Lf × List Od) (ho : List (Nat × Obj)) (u : Value) (w' : World), playL xs o = pl → OrdR u pl.2 ho → Bk w (ho ++ (h ++ [])) gb pl.1 w' →
      flotillalaw20_OwnEnds_k7 (std Try.prog) vs (fun vs' w' => (∃ (i : Nat) (xs : List Lf) (calls : List Od) (h : List (Nat × Obj)), i ≤ ops.length ∧ i ≤ 80 ∧ vs'.getD 1 undef = .int .i64 i ∧ Inv xs ∧ xs.length = pn ∧ Cov 0 xs calls ∧ WFo calls ∧ calls.length ≤ 2 * i ∧ OrdR (vs'.getD 0 undef) calls h ∧ Bk w (h ++ []) gb xs w' ∧ (∀ q ∈ h, w.heap.size ≤ q.1)) ∧ ops.length - (intOf (vs'.getD 1 undef)).toNat < ops.length - (intOf (Value.int .i64 (i : Int))).toNat) u w' fun r w' => r = .bool true ∧ Upd w w' [] := by
    intro pl ho u w' hpl hu hB'
    subst hpl
    unfold flotillalaw20_OwnEnds_k7
    refine st_apo hB' hr hu (by omega) hh ?_
    intro v2 w2 h2 hr2 hB2 hh2
    simp (disch := omega) only [e1, PX, w64]
    refine ⟨⟨i + 1, _, _, h2, by omega, by omega, rfl, p4, by rw [p5, hxl], p1, p2, by rw [List.length_append]; omega, hr2, hB2, hh2⟩, ?_⟩
    simp only [List.getD_cons_zero, List.getD_cons_succ, intOf]; omega
  simp (disch := first | assumption | omega) only [PX, BX, LX]
  refine ⟨fun h0 => ?_, fun h0 => ⟨fun h1 => ?_, fun h1 => ⟨fun h2 => ?_, fun h2 => ⟨fun h3 => ?_, fun h3 => next (xs, []) [] _ w4 (by unfold playL; rw [if_neg h0, if_neg h1, if_neg h2, if_neg h3]) ordR_nil hB⟩⟩⟩⟩
  · refine st_draw (fun w' => Upd w w' []) hBd.upd ?_
    simp (disch := first | assumption | omega) only [SX, SLX]
    refine st_call (Need_spec hBd hI.n900 o.page o.inst) ?_
    rintro _ w6 ⟨ro, ho, rfl, hor, hB6, hho⟩
    refine st_keepT (fun _ => True) trivial ?_
    have hneT : ∃ w', (fun _ : World => True) w' := ⟨w6, trivial⟩
    simp (disch := first | assumption | omega) only [SX]
    exact next _ ho ro w6 (by unfold playL; rw [if_pos h0]) hor hB6
  · refine st_draw (fun w' => Upd w w' []) hBd.upd ?_
    simp (disch := first | assumption | omega) only [SX, SLX]
    refine st_call (Back_spec hBd hI.n900 o.page o.inst) ?_
    rintro _ w6 ⟨ro, ho, rfl, hor, hB6, hho⟩
    refine st_keepT (fun _ => True) trivial ?_
    have hneT : ∃ w', (fun _ : World => True) w' := ⟨w6, trivial⟩
    simp (disch := first | assumption | omega) only [SX]
    exact next _ ho ro w6 (by unfold playL; rw [if_neg h0, if_pos h1]) hor hB6
  · refine st_call (Fail_spec hB (by have := hI.1; omega) hI.n900 o.inst) ?_
    rintro rg w6 ⟨hr, hrow, hB6, hhr⟩
    exact next ((failL xs o.inst).1, []) [] _ w6 (by unfold playL; rw [if_neg h0, if_neg h1, if_pos h2]) ordR_nil hB6.drop
  · refine st_call (Mend_spec hB hI.n900 o.page) ?_
    rintro _ w6 ⟨ro, ho, rfl, hor, hB6, hho⟩
    simp only [PX]
    exact next _ ho ro w6 (by unfold playL; rw [if_neg h0, if_neg h1, if_neg h2, if_pos h3]) hor hB6
end Go.Proofs.Ytilfkccahlkcaaa
