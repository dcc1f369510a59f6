/- Logs: a log, its device, and what stands beside them. -/
import Derived.Test.YtplpjikcgheiiaaWalZ
namespace Go.Proofs.Ytplpjikcgheiiaa.Wal
open Go Go.Proofs.Ytplpjikcgheiiaa Go.Proofs.Ytplpjikcgheiiaa.Rec Xf Go.RowKit Go.ChangeShapes Go.WideShapes Go.Deep
set_option linter.unusedVariables false
set_option linter.unusedSimpArgs false
set_option maxRecDepth 100000

/-- records in new memory -/
def NewRs (W w' : World) (u : Value) (L : List Re) : Prop := ∃ rows ho hk, RowH 41 12 u L.length (rows.flatMap id) ho ∧ OutH L rows hk ∧ Owns w' (ho ++ hk) ∧ ∀ p ∈ ho ++ hk, W.heap.size ≤ p.1
theorem recordsN_spec (W : World) (v : Value) (L : List En) (hn : ∀ x ∈ L, small x.r) (hL : L.length ≤ 100000) (h : RdE W v L) :
    CallsR Try.prog 48 #[v] W fun u w' => Upd W w' [] ∧ NewRs W w' u (L.map (·.r)) := by
  obtain ⟨A, c, rfl, hmax, hE⟩ := h
  apply wal_records_sound
  unfold wal_records_x
  simp only [PX]
  refine st_loop (fun vs w' => ∃ (i : Nat) (rows : List (List Value)) (ho hk : List (Nat × Obj)) (x : Value), i ≤ L.length ∧ vs.getD 1 undef = x ∧ vs.getD 2 undef = .int .i64 i ∧ Upd W w' [] ∧ RowH 41 12 x i (rows.flatMap id) ho ∧ OutH ((L.take i).map (·.r)) rows hk ∧ Owns w' (ho ++ hk) ∧ (∀ p ∈ ho, W.heap.size ≤ p.1) ∧ ∀ p ∈ hk, W.heap.size ≤ p.1) (fun vs _ => L.length - (intOf (vs.getD 2 undef)).toNat)
    ⟨0, [], [], [], .slice none 0 0, by omega, rfl, rfl, Upd.refl W [], RowH.nil_ _ _, ⟨rfl, fun i hi => by simp at hi⟩, Owns.nil W, (fun p hp => by cases hp), fun p hp => by cases hp⟩ ?_
  rintro dv vs w1 - ⟨i, rows, ho, hk, x, hi, e1, e2, hU1, hrow, hout, hO1, hfr, hfk⟩
  simp (disch := omega) only [e1, e2, PX, BX]
  refine ⟨fun hlt => ?_, fun hge => ?_⟩
  · have hi' : i < L.length := by omega
    obtain ⟨a, vt, vd, vb, rfl, hc, o1, o2, o3, rt, rd, rb⟩ := hE i hi'
    have hc1 : ∀ j u, (enV L[i] vt vd vb)[j]? = some u → w1.cell? ((a.add (i * 13)).add j) = some u := fun j u hu => by
      have := hc j u hu
      rw [hU1.cell (World.block_lt_of_cell? W _ this) (by simp)]; exact this
    simp (disch := omega) only [PX]
    rw [step_run (run_en hc1)]
    refine st_alloc ze95 hU1 hO1 ?_
    intro g2 w2 hU2 hO2 hg2
    refine st_storeN (vs := enV L[i] vt vd vb) (by rw [sz95]; rfl) hU2 hO2 0 rfl (by simp [enV, reV, Value.cells]) (enV_one _ o1 o2 o3) (.inr hg2) ?_
    intro w3 hU3 hO3
    have hO3 : Owns w3 ((g2, .cells (enV L[i] vt vd vb).toArray 95 (0, 0)) :: (ho ++ hk)) := hO3
    have hld : (sLoad 41 (.pointer (some ⟨g2, 0, none⟩))).run Try.prog w3 = .ok (.value (.agg (reV L[i].r vt vd).toArray)) w3 := run_reN fun j u hu => by
      have hj : j < 12 := by have := (List.getElem?_eq_some_iff.1 hu).1; rwa [reV_len] at this
      refine cells_read (hO3.at_ 0 rfl) j u ?_
      show (enV L[i] vt vd vb)[j]? = some u
      unfold enV
      rw [List.getElem?_append_left (by rw [reV_len]; exact hj)]; exact hu
    simp (disch := omega) only [PX]
    rw [step_run hld]
    refine st_call (copied_spec w3 _ L[i].r (hn _ (List.getElem_mem hi')) ⟨vt, vd, rfl, rt.mono hU3, rd.mono hU3⟩) ?_
    rintro _ w4 hN
    obtain ⟨yt, yd, ht, hd, rfl, y1, y2, y3, y4, y5⟩ := hN
    have hO4 : Owns w4 ((ht ++ hd) ++ ((g2, .cells (enV L[i] vt vd vb).toArray 95 (0, 0)) :: (ho ++ hk))) := Enc.owns_app hO3 y5 y4 y3
    have hU4 := hU3.trans y5
    obtain ⟨B1, m1, hyt, _⟩ := RowH.rdS y1 (stands.of (y4.sub (List.sublist_append_left _ _)))
    obtain ⟨B2, m2, hyd, _⟩ := RowH.rdS y2 (stands.of (y4.sub (List.sublist_append_right _ _)))
    have q1 := (Rec.RowH.one y1).1
    have q2 := (Rec.RowH.one y2).1
    subst hyt hyd
    refine st_newRow (row_re L[i].r B1 B2 _ m1 _ m2) hU4 hO4 ?_
    intro g5 w5 hU5 hO5 hg5
    obtain ⟨inf, hi1, hz1, hsz, hby⟩ := inf41
    refine st_append (h := ho) (F := (g5, .cells (reV L[i].r (.slice B1 L[i].r.ts.length m1) (.slice B2 L[i].r.ds.length m2)).toArray 41 (0, 0)) :: (g2, .cells (enV L[i] vt vd vb).toArray 95 (0, 0)) :: ((ht ++ hd) ++ hk)) (ys := reV L[i].r (.slice B1 L[i].r.ts.length m1) (.slice B2 L[i].r.ds.length m2)) (m := 1) u31 hi1 hz1 hsz hby rfl (by omega) hrow ?_ hU5 (fun p hp => .inr (hfr p hp)) (rd_rowN (n := 1) (c := 1) (hO5.at_ 0 rfl) rfl (by omega) rfl) (reV_one _ q1 q2) (by unfold maxLen; omega) (by omega) ?_
    · refine hO5.perm ?_
      classical
      refine List.perm_iff_count.2 fun y => ?_
      simp only [List.count_cons, List.count_append]
      omega
    intro v6 w6 h6 hr6 hO6 hU6 hh6
    simp (disch := omega) only [PX, w64, e2]
    refine ⟨⟨i + 1, rows ++ [reV L[i].r (.slice B1 L[i].r.ts.length m1) (.slice B2 L[i].r.ds.length m2)], h6, (ht ++ hd) ++ hk, v6, by omega, rfl, rfl, hU6, ?_, ?_, hO6.sub (List.Sublist.append (List.Sublist.refl _) (.cons _ (.cons _ (List.Sublist.refl _)))), fun p hp => (hh6 p hp).resolve_left (by simp), fun p hp => ?_⟩, ?_⟩
    · rw [List.flatMap_append]; simpa using hr6
    · rw [List.take_succ_eq_append_getElem hi', List.map_append]
      have hl0 : rows.length = i := by rw [hout.1]; simp; omega
      refine ⟨by simp [hl0]; omega, fun k hk2 => ?_⟩
      have hk2' : k < i + 1 := by simp at hk2; omega
      have hkL : k < L.length := by omega
      have hel : (List.map (fun x => x.r) (List.take i L) ++ List.map (fun x => x.r) [L[i]])[k]'hk2 = L[k].r := by
        have : (List.map (fun x : En => x.r) (List.take i L) ++ List.map (fun x => x.r) [L[i]]) = (L.take (i + 1)).map (·.r) := by rw [← List.map_append, ← List.take_succ_eq_append_getElem hi']
        simp only [this]
        simp
      rw [hel]
      by_cases hki : k < i
      · obtain ⟨wt, wd, he, p1, p2, p3⟩ := hout.2 k (by simp; omega)
        have hel2 : (List.map (fun x : En => x.r) (List.take i L))[k]'(by simp; omega) = L[k].r := by simp
        rw [hel2] at he p3
        refine ⟨wt, wd, ?_, p1, p2, fun w hs => p3 w fun p hp => hs p (List.mem_append_right _ hp)⟩
        rw [List.getElem?_append_left (by omega), he]
      · obtain rfl : k = i := by omega
        refine ⟨_, _, ?_, q1, q2, fun w hs => ⟨?_, ?_⟩⟩
        · rw [List.getElem?_append_right (by omega), hl0, Nat.sub_self]
          rfl
        · exact RowH.rdS y1 (w := w) fun p hp => hs p (List.mem_append_left _ (List.mem_append_left _ hp))
        · exact RowH.rdS y2 (w := w) fun p hp => hs p (List.mem_append_left _ (List.mem_append_right _ hp))
    · rcases List.mem_append.1 hp with hp | hp
      · exact Nat.le_trans hU3.size (y3 p hp)
      · exact hfk p hp
    · simp only [List.getD_cons_succ, List.getD_cons_zero, intOf]; omega
  · obtain rfl : i = L.length := by omega
    unfold wal_records_k1
    rw [List.take_length] at hout
    exact ⟨hU1, rows, ho, hk, by rw [List.length_map]; exact hrow, hout, hO1, fun p hp => (List.mem_append.1 hp).elim (hfr p) (hfk p)⟩

/-- a device, a log and its device, and what else stands -/
def DevF (W : World) (F : List (Nat × Obj)) (dv : Value) (d : Dv) (w : World) : Prop := ∃ hd, DevH d dv hd ∧ Owns w (hd ++ F) ∧ Upd W w [] ∧ ∀ p ∈ hd, W.heap.size ≤ p.1
def SysF (W : World) (F : List (Nat × Obj)) (dv v : Value) (d : Dv) (s : Lg) (w : World) : Prop := ∃ h hd, LogH dv s v h ∧ DevH d dv hd ∧ Owns w (h ++ (hd ++ F)) ∧ Upd W w [] ∧ (∀ p ∈ h, W.heap.size ≤ p.1) ∧ ∀ p ∈ hd, W.heap.size ≤ p.1
section
variable {W w w' : World} {F : List (Nat × Obj)} {dv v : Value} {d : Dv} {s : Lg}
theorem SysF.of (h : Sys W dv v d s w) : SysF W [] dv v d s w := by
  obtain ⟨h, hd, h1, h2, h3, h4⟩ := h
  exact ⟨h, hd, h1, h2, by rwa [List.append_nil], h4⟩
theorem SysF.to (h : SysF W F dv v d s w) : Sys W dv v d s w := by
  obtain ⟨h, hd, h1, h2, h3, h4⟩ := h
  exact ⟨h, hd, h1, h2, h3.sub (List.Sublist.append (List.Sublist.refl _) (List.sublist_append_left _ _)), h4⟩
theorem DevF.to (h : DevF W F dv d w) : Dev W dv d w := by
  obtain ⟨hd, h2, h3, h4⟩ := h
  exact ⟨hd, h2, h3.sub (List.sublist_append_left _ _), h4⟩
theorem SysF.dev (h : SysF W F dv v d s w) : DevF W F dv d w := by
  obtain ⟨h, hd, h1, h2, h3, h4, h5, h6⟩ := h
  exact ⟨hd, h2, h3.sub (List.sublist_append_right _ _), h4, h6⟩
theorem SysF.ext (h : SysF W F dv v d s w) (hU : Upd w w' []) : SysF W F dv v d s w' := by
  obtain ⟨h, hd, h1, h2, h3, h4, h5, h6⟩ := h
  exact ⟨h, hd, h1, h2, h3.ext hU, h4.trans hU, h5, h6⟩
theorem DevF.ext (h : DevF W F dv d w) (hU : Upd w w' []) : DevF W F dv d w' := by
  obtain ⟨hd, h2, h3, h4, h5⟩ := h
  exact ⟨hd, h2, h3.ext hU, h4.trans hU, h5⟩
theorem SysF.upd (h : SysF W F dv v d s w) : Upd W w [] := h.to.upd
theorem DevF.upd (h : DevF W F dv d w) : Upd W w [] := h.to.upd
theorem SysF.owns (h : SysF W F dv v d s w) : Owns w F := by
  obtain ⟨h, hd, h1, h2, h3, h4⟩ := h
  exact h3.sub ((List.sublist_append_right _ _).trans (List.sublist_append_right _ _))
theorem DevF.owns (h : DevF W F dv d w) : Owns w F := by
  obtain ⟨hd, h2, h3, h4⟩ := h
  exact h3.sub (List.sublist_append_right _ _)
/-- other blocks beside them -/
theorem SysF.swap {F' : List (Nat × Obj)} (h : SysF W F dv v d s w) (hs : ∀ h hd : List (Nat × Obj), Owns w (h ++ (hd ++ F)) → Owns w' (h ++ (hd ++ F'))) (hU : Upd w w' []) : SysF W F' dv v d s w' := by
  obtain ⟨h, hd, h1, h2, h3, h4, h5, h6⟩ := h
  exact ⟨h, hd, h1, h2, hs h hd h3, h4.trans hU, h5, h6⟩
theorem fOpen (h : DevF W F dv d w) (ok : DvOk d) (hand : Int) : CallsR Try.prog 10 #[dv, .int .i64 hand] w fun r w' => Upd w w' [] ∧
    ((openE d hand ≠ 0 ∧ r = .tuple #[.pointer none, .int .i64 (openE d hand)] ∧ DevF W F dv d w') ∨ (openE d hand = 0 ∧ ∃ g, r = .tuple #[.pointer (some g), .int .i64 0] ∧ SysF W F dv (.pointer (some g)) d (openS d hand) w')) := by
  obtain ⟨hd, h1, h2, h3, h4⟩ := h
  refine CallsR.mono (Open_log_spec ok h1 (fun p hp => List.mem_append_left _ hp) h2 (Upd.refl w []) hand) ?_
  rintro r w' ⟨hU', ⟨hn, rfl, hO⟩ | ⟨he, g, h', rfl, hl, hO, hh⟩⟩
  · exact ⟨hU', .inl ⟨hn, rfl, hd, h1, hO, h3.trans hU', h4⟩⟩
  · exact ⟨hU', .inr ⟨he, g, rfl, h', hd, hl, h1, hO, h3.trans hU', fun p hp => Nat.le_trans h3.size (hh p hp), h4⟩⟩
theorem fCrash (h : DevF W F dv d w) (ok : DvOk d) (hand n : Int) : CallsR Try.prog 15 #[dv, .int .i64 hand, .int .i64 n] w fun r w' => r = .int .i64 (crashD d hand n).2 ∧ DevF W F dv (crashD d hand n).1 w' := by
  obtain ⟨hd, h1, h2, h3, h4⟩ := h
  refine CallsR.mono (Crash_spec ok h1 h2 h3 (fresh0 h4) hand n) ?_
  rintro r w' ⟨rfl, hU, h', hd', hO, hh⟩
  exact ⟨rfl, h', hd', hO, hU, fresh1 hh⟩
theorem fAppend (h : SysF W F dv v d s w) (fit : LgFit d.B.length s) {vr : Value} {r : Re} (hr : RdRe w vr r) :
    CallsR Try.prog 12 #[v, vr] w fun u w' => u = .int .i64 (joinL s r (roomL d.B.length s)).2 ∧ SysF W F dv v d (joinL s r (roomL d.B.length s)).1 w' := by
  obtain ⟨h, hd, h1, h2, h3, h4, h5, h6⟩ := h
  refine CallsR.mono (Append_spec h1 h2 h3 h4 (fresh0 h5) fit hr) ?_
  rintro u w' ⟨rfl, hU, h', hl', hO, hh⟩
  exact ⟨rfl, h', hd, hl', h2, hO, hU, fresh1 hh, h6⟩
theorem fForce (h : SysF W F dv v d s w) (ok : DvOk d) (fit : LgFit d.B.length s) :
    CallsR Try.prog 13 #[v] w fun u w' => u = .bool (forceL d s).2.2 ∧ SysF W F dv v (forceL d s).1 (forceL d s).2.1 w' := by
  obtain ⟨h, hd, h1, h2, h3, h4, h5, h6⟩ := h
  refine CallsR.mono (Force_spec ok h1 h2 h3 h4 (fresh0 h5) (fresh0 h6) fit) ?_
  rintro u w' ⟨rfl, hU, h', hd2, hl', hd2', hO, hh, hh2⟩
  exact ⟨rfl, h', hd2, hl', hd2', hO, hU, fresh1 hh, fresh1 hh2⟩
theorem fDone (h : SysF W F dv v d s w) (ok : DvOk d) (fit : LgFit d.B.length s) :
    CallsR Try.prog 14 #[v] w fun u w' => u = .int .i64 (doneL d s).2.2 ∧ SysF W F dv v (doneL d s).1 (doneL d s).2.1 w' := by
  obtain ⟨h, hd, h1, h2, h3, h4, h5, h6⟩ := h
  refine CallsR.mono (Done_log_spec ok h1 h2 h3 h4 (fresh0 h5) (fresh0 h6) fit) ?_
  rintro u w' ⟨rfl, hU, h', hd2, hl', hd2', hO, hh, hh2⟩
  exact ⟨rfl, h', hd2, hl', hd2', hO, hU, fresh1 hh, fresh1 hh2⟩
theorem fStable (h : SysF W F dv v d s w) (hst : s.st ≤ s.L.length) : CallsR Try.prog 25 #[v] w fun u w' => u = .int .u64 (lsnAt (s.L.map (·.r)) s.st : Nat) ∧ w' = w := by
  obtain ⟨h, hd, h1, h2, h3, h4, h5, h6⟩ := h
  exact Stable_spec h1 (fun p hp => List.mem_append_left _ hp) h3 hst
theorem fFlying (h : SysF W F dv v d s w) : CallsR Try.prog 35 #[v] w fun u w' => u = .bool (decide (0 < s.fl)) ∧ w' = w := by
  obtain ⟨h, hd, h1, h2, h3, h4, h5, h6⟩ := h
  exact Flying_log_spec h1 (fun p hp => List.mem_append_left _ hp) h3
/-- the records of a log, in memory of their own -/
theorem fRecords (h : SysF W F dv v d s w) (fit : LgFit d.B.length s) : CallsR Try.prog 16 #[v] w fun u w' => Upd w w' [] ∧ NewRs w w' u (s.L.map (·.r)) ∧ SysF W F dv v d s w' := by
  have h0 := h
  obtain ⟨h, hd, h1, h2, h3, h4, h5, h6⟩ := h
  have hlen := fit.len
  obtain ⟨g, x, rfl, hm, hE⟩ := h1.look (G := h ++ (hd ++ F)) (fun p hp => List.mem_append_left _ hp)
  obtain ⟨c0, c1, c2, c3, c4, c5, c6, c7, c8⟩ := log_cells (h3.2 _ hm)
  apply wal_Log_Records_sound
  unfold wal_Log_Records_x
  simp (disch := first | assumption | omega) only [PX, BX, LX, add_mk, Nat.reduceAdd]
  refine st_call (recordsN_spec w x s.L (fun y hy => small_of (fit.ok y hy)) (by omega) (hE w (stands.of h3))) ?_
  rintro u w' ⟨hU, hN⟩
  exact ⟨hU, hN, h0.ext hU⟩
theorem fRead (h : DevF W F dv d w) (ok : DvOk d) : CallsR Try.prog 21 #[dv] w fun u w' => Upd w w' [] ∧ RdRs w' u ((scanD d.B).1.map (·.r)) := by
  obtain ⟨hd, h1, h2, h3, h4⟩ := h
  exact Read_log_spec h1 ok.most (fun p hp => List.mem_append_left _ hp) h2
theorem NewRs.rd {u : Value} {L : List Re} (h : NewRs W w u L) : RdRs w u L := by
  obtain ⟨rows, ho, hk, h1, h2, h3, h4⟩ := h
  exact OutH.rd h2 h1 (stands.of (h3.sub (List.sublist_append_left _ _))) (stands.of (h3.sub (List.sublist_append_right _ _)))
/-- records stand beside all, and read so as long as their blocks stand -/
theorem NewRs.keep {w1 : World} {u : Value} {L : List Re} (h : NewRs w w1 u L) (hU : Upd w w1 []) (hS : SysF W F dv v d s w) : ∃ R : List (Nat × Obj), SysF W (R ++ F) dv v d s w1 ∧ ∀ w', Owns w' R → RdRs w' u L := by
  obtain ⟨rows, ho, hk, h1, h2, h3, h4⟩ := h
  refine ⟨ho ++ hk, hS.swap (fun h hd hO => ?_) hU, fun w' hO => OutH.rd h2 h1 (stands.of (hO.sub (List.sublist_append_left _ _))) (stands.of (hO.sub (List.sublist_append_right _ _)))⟩
  refine (Enc.owns_app hO hU h3 h4).perm ?_
  classical
  refine List.perm_iff_count.2 fun y => ?_
  simp only [List.count_cons, List.count_append]
  omega
end
theorem torn_lives {W w : World} (hU : Upd W w []) : (std Try.prog).calls 9 #[] w fun v w' => v = .bool true ∧ Upd W w' [] := st_call (lives_spec hU) fun _ _ h => h
/-- a slice's first ones -/
theorem RdRs.take {w : World} {A : Option Addr} {n c m : Nat} {L : List Re} (h : RdRs w (.slice A n c) L) (hm : m ≤ L.length) : RdRs w (.slice A m c) (L.take m) := by
  obtain ⟨A', c', he, hx, hE⟩ := h
  injection he with h1 h2 h3
  subst h1 h2 h3
  have hl : (L.take m).length = m := by rw [List.length_take]; omega
  refine ⟨A, c, by rw [hl], by rw [hl]; omega, fun i hi => ?_⟩
  rw [hl] at hi
  have := hE i (by omega)
  rw [List.getElem_take]
  exact this
theorem RdRs.sl {w : World} {v : Value} {L : List Re} (h : RdRs w v L) : ∃ A c, v = .slice A L.length c := by
  obtain ⟨A, c, h, _⟩ := h
  exact ⟨A, c, h⟩
end Go.Proofs.Ytplpjikcgheiiaa.Wal
