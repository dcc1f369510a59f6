/- WalGone. -/
import Derived.Test.YtplpjikcgheiiaaWalTA
namespace Go.Proofs.Ytplpjikcgheiiaa.Wal
open Go Go.Proofs.Ytplpjikcgheiiaa Go.Proofs.Ytplpjikcgheiiaa.Rec Xf Go.RowKit Go.ChangeShapes Go.WideShapes Go.Deep
set_option linter.unusedVariables false
set_option linter.unusedSimpArgs false
set_option maxRecDepth 100000

/-- records in a row of their own whose parts stand in old memory -/
def AllH (W : World) (v : Value) (L : List Re) (h : List (Nat × Obj)) : Prop := ∃ rows : List (List Value), RowH 41 12 v L.length (rows.flatMap id) h ∧ rows.length = L.length ∧ ∀ i (hi : i < L.length), ∃ vt vd, rows[i]? = some (reV L[i] vt vd) ∧ RdS W txV 3 vt L[i].ts ∧ RdS W diV 2 vd L[i].ds
theorem rdS_one {α : Type} {w : World} {f : α → List Value} {k : Nat} {v : Value} {l : List α} (h : RdS w f k v l) : v.oneCell' = true := by
  obtain ⟨A, c, rfl, _⟩ := h
  rfl
theorem AllH.nil (W : World) : AllH W (.slice none 0 0) [] [] := ⟨[], RowH.nil_ _ _, rfl, fun i hi => by simp at hi⟩
theorem AllH.rd {W w : World} {v : Value} {L : List Re} {h : List (Nat × Obj)} (ha : AllH W v L h) (hU : Upd W w []) (hO : Owns w h) : RdRs w v L := by
  obtain ⟨rows, h1, h2, h3⟩ := ha
  -- the parts stand in no block of a list: read them by hand
  have hall : ∀ x ∈ rows, x.length = 12 := fun x hx => by
    obtain ⟨i, hi, rfl⟩ := List.mem_iff_getElem.1 hx
    obtain ⟨vt, vd, he, _⟩ := h3 i (by rw [← h2]; exact hi)
    rw [List.getElem?_eq_getElem hi] at he
    injection he with he
    rw [he]; rfl
  have hrd : Rd w 12 v L.length (rows.flatMap id) := h1.rd (F := []) (by rw [List.append_nil]; exact hO)
  have hmax : L.length ≤ maxLen := by
    rcases h1.2 with ⟨_, h0, _⟩ | ⟨_, cap, _, _, _, q1, q2, _⟩
    · rw [h0]; exact Nat.zero_le _
    · omega
  obtain ⟨A, c, rfl, hc, hlen, hcell⟩ := hrd
  refine ⟨A, c, rfl, hmax, fun i hi => ?_⟩
  obtain ⟨vt, vd, he, r1, r2⟩ := h3 i hi
  have hat : ∀ j u, (reV L[i] vt vd)[j]? = some u → (rows.flatMap id)[i * 12 + j]? = some u := by
    intro j u hu
    have hj : j < 12 := by have := (List.getElem?_eq_some_iff.1 hu).1; rwa [reV_len] at this
    have aux : ∀ (rs : List (List Value)) (k : Nat) (row : List Value), (∀ x ∈ rs, x.length = 12) → rs[k]? = some row → (rs.flatMap id)[k * 12 + j]? = row[j]? := by
      intro rs
      induction rs with
      | nil => intro k row _ hk; simp at hk
      | cons x rs ih =>
        intro k row hx hk
        have hx0 := hx x (List.mem_cons_self ..)
        cases k with
        | zero =>
          simp only [List.getElem?_cons_zero, Option.some.injEq] at hk
          subst hk
          rw [List.flatMap_cons, Nat.zero_mul, Nat.zero_add]
          exact List.getElem?_append_left (by rw [id, hx0]; exact hj)
        | succ k =>
          simp only [List.getElem?_cons_succ] at hk
          rw [List.flatMap_cons, List.getElem?_append_right (by rw [id, hx0]; omega), id, hx0, show (k + 1) * 12 + j - 12 = k * 12 + j by omega]
          exact ih k row (fun y hy => hx y (List.mem_cons_of_mem _ hy)) hk
    rw [aux rows i _ hall he]; exact hu
  obtain ⟨a, ha, _⟩ := hcell _ _ (hat 0 _ rfl)
  refine ⟨a, vt, vd, ha, fun j u hu => ?_, rdS_one r1, rdS_one r2, r1.mono hU, r2.mono hU⟩
  obtain ⟨a', ha', hx⟩ := hcell _ _ (hat j u hu)
  rw [ha] at ha'
  injection ha' with ha'
  subst ha'
  rw [add_add']; exact hx
theorem RowH_take {e : TypeId} {sz n k m c : Nat} {A : Option Addr} {xs : List Value} {h : List (Nat × Obj)} (hr : RowH e sz (.slice A k c) n xs h) (hm : m ≤ n) : RowH e sz (.slice A m c) m (xs.take (m * sz)) h := by
  refine ⟨by rw [List.length_take, hr.1, Nat.min_eq_left (Nat.mul_le_mul_right _ hm)], ?_⟩
  rcases hr.2 with ⟨h1, h2, h3⟩ | ⟨g, cap, cs, h1, h2, h3, h4, h5, h6⟩
  · injection h1 with q1 q2 q3
    subst q1 q3
    exact .inl ⟨by rw [show m = 0 by omega], by omega, h3⟩
  · injection h1 with q1 q2 q3
    subst q1 q3
    refine .inr ⟨g, c, cs, rfl, h2, by omega, h4, h5, ?_⟩
    rw [← h6, List.take_take, Nat.min_eq_left (Nat.mul_le_mul_right _ hm)]
/-- the first ones alone -/
theorem AllH.take {W : World} {A : Option Addr} {n c m : Nat} {L : List Re} {h : List (Nat × Obj)} (ha : AllH W (.slice A n c) L h) (hm : m ≤ L.length) : m ≤ c ∧ AllH W (.slice (if c = 0 then A else A.map (·.add 0)) m c) (L.take m) h := by
  have hA0 : (if c = 0 then A else A.map (·.add 0)) = A := by
    split
    · rfl
    · cases A <;> simp [Addr.add]
  rw [hA0]
  obtain ⟨rows, h1, h2, h3⟩ := ha
  have hlt : (L.take m).length = m := by rw [List.length_take]; omega
  have hall : ∀ x ∈ rows, x.length = 12 := fun x hx => by
    obtain ⟨i, hi, rfl⟩ := List.mem_iff_getElem.1 hx
    obtain ⟨vt, vd, he, _⟩ := h3 i (by rw [← h2]; exact hi)
    rw [List.getElem?_eq_getElem hi] at he
    injection he with he
    rw [he]; rfl
  have hfl : ∀ (rs : List (List Value)) (k : Nat), (∀ x ∈ rs, x.length = 12) → (rs.take k).flatMap id = (rs.flatMap id).take (k * 12) := by
    intro rs
    induction rs with
    | nil => intro k _; simp
    | cons x rs ih =>
      intro k hx
      have hx0 : x.length = 12 := hx x (List.mem_cons_self ..)
      cases k with
      | zero => simp
      | succ k =>
        rw [List.take_succ_cons, List.flatMap_cons, List.flatMap_cons, ih k fun y hy => hx y (List.mem_cons_of_mem _ hy)]
        show x ++ _ = (x ++ _).take _
        have hx1 : x.take ((k + 1) * 12) = x := List.take_of_length_le (by rw [hx0]; omega)
        rw [List.take_append, hx1, hx0, show (k + 1) * 12 - 12 = k * 12 by omega]
  have hcap : m ≤ c := by
    rcases h1.2 with ⟨_, h0, _⟩ | ⟨g0, cap, cs, he, _, hle0, _⟩
    · omega
    · injection he with _ _ he3; omega
  refine ⟨hcap, rows.take m, ?_, by rw [List.length_take, hlt]; omega, fun i hi => ?_⟩
  · rw [hlt, hfl rows m hall]
    exact RowH_take h1 hm
  · rw [hlt] at hi
    obtain ⟨vt, vd, he, r1, r2⟩ := h3 i (by omega)
    refine ⟨vt, vd, ?_, ?_, ?_⟩
    · rw [List.getElem?_take, if_pos hi, he, List.getElem_take]
    · rw [List.getElem_take]; exact r1
    · rw [List.getElem_take]; exact r2
/-- what stands beside a log may be dealt with by itself -/
theorem SysF.frame {W w : World} {F : List (Nat × Obj)} {dv v : Value} {d : Dv} {s : Lg} (h : SysF W F dv v d s w) : ∃ rest, Owns w (F ++ rest) ∧ Upd W w [] ∧ ∀ {w' : World} {F' : List (Nat × Obj)}, Upd W w' [] → Owns w' (F' ++ rest) → SysF W F' dv v d s w' := by
  obtain ⟨h, hd, h1, h2, h3, h4, h5, h6⟩ := h
  have p : ∀ G : List (Nat × Obj), (h ++ (hd ++ G)).Perm (G ++ (h ++ hd)) := fun G => by
    classical
    refine List.perm_iff_count.2 fun y => ?_
    simp only [List.count_append]
    omega
  exact ⟨h ++ hd, h3.perm (p F), h4, fun hU hO => ⟨h, hd, h1, h2, hO.perm (p _).symm, hU, h5, h6⟩⟩
theorem woV_one (o : WOp) {vt vd : Value} (h1 : vt.oneCell' = true) (h2 : vd.oneCell' = true) : ∀ u ∈ woV o vt vd, u.oneCell' = true := by
  intro u hu
  rcases List.mem_append.1 hu with hu | hu
  · simp only [List.mem_cons, List.not_mem_nil, or_false] at hu
    rcases hu with h | h | h <;> subst h <;> rfl
  · exact reV_one _ h1 h2 u hu
/-- what holds ahead of each step -/
def GoneI (W : World) (gd : Addr) (m : Nat) (vs : List Value) (w' : World) : Prop := ∃ (i : Nat) (g2 : Addr) (va : Value) (h : List (Nat × Obj)) (d' : Dv) (s' : Lg), vs.getD 0 undef = .pointer (some g2) ∧ vs.getD 1 undef = va ∧ vs.getD 2 undef = .int .i64 i ∧ i ≤ m ∧
  SysF W h (.pointer (some gd)) (.pointer (some g2)) d' s' w' ∧ Inv d' s' ∧ s'.hand = 2 ∧ AllH W va (s'.L.map (·.r)) h ∧ ∀ p ∈ h, W.heap.size ≤ p.1
theorem gone_k3 {W w' : World} {i m : Nat} {gd g2 : Addr} {vs : List Value} {va : Value} {h : List (Nat × Obj)} {d' : Dv} {s' : Lg} (e2 : vs.getD 2 undef = .int .i64 i) (hi' : i < m) (hm : m ≤ 2 ^ 63 - 1)
    (hS' : SysF W h (.pointer (some gd)) (.pointer (some g2)) d' s' w') (hI' : Inv d' s') (hh : s'.hand = 2) (ha : AllH W va (s'.L.map (·.r)) h) (hf : ∀ p ∈ h, W.heap.size ≤ p.1) {Q : Value → World → Prop} :
    flotillalaw09_WalGone_k3 (std Try.prog) vs (fun vs' w' => GoneI W gd m vs' w' ∧ m - (intOf (vs'.getD 2 undef)).toNat < m - (intOf (.int .i64 (i : Nat))).toNat) (.pointer (some g2)) va w' Q := by
  unfold flotillalaw09_WalGone_k3
  simp (disch := omega) only [e2, PX, w64]
  refine ⟨⟨i + 1, g2, va, h, d', s', rfl, rfl, rfl, by omega, hS', hI', hh, ha, hf⟩, ?_⟩
  show m - (intOf (.int .i64 ((i : Int) + 1))).toNat < m - (intOf (.int .i64 (i : Nat))).toNat
  simp only [intOf]; omega
theorem gone_k4 {W w : World} {i m : Nat} {gd g2 : Addr} {g9 : Nat} {vs : List Value} {va : Value} {h : List (Nat × Obj)} {d : Dv} {s : Lg} {o : WOp} {xt xd : Value} {P : Prop} [Decidable P] (e0 : vs.getD 0 undef = .pointer (some g2)) (e1 : vs.getD 1 undef = va) (e2 : vs.getD 2 undef = .int .i64 i) (hi' : i < m) (hm : m ≤ 2 ^ 63 - 1)
    (rt : RdS W txV 3 xt o.r.ts) (rd : RdS W diV 2 xd o.r.ds)
    (hS : SysF W ((g9, .cells (woV o xt xd).toArray 43 (0, 0)) :: h) (.pointer (some gd)) (.pointer (some g2)) d s w) (hI : Inv d s) (hh : s.hand = 2) (ha : AllH W va (s.L.map (·.r)) h) (hf : ∀ p ∈ h, W.heap.size ≤ p.1) :
    flotillalaw09_WalGone_k4 (std Try.prog) (.pointer (some gd)) vs (fun vs' w' => GoneI W gd m vs' w' ∧ m - (intOf (vs'.getD 2 undef)).toNat < m - (intOf (.int .i64 (i : Nat))).toNat) (.pointer (some ⟨g9, 0, none⟩)) (.int .i64 o.kind) (.bool (decide P)) w fun u w' => u = .bool true ∧ Upd W w' [] := by
  unfold flotillalaw09_WalGone_k4
  have hle := hI.fit.len
  obtain ⟨B1, m1, hx1, -⟩ := id rt
  obtain ⟨B2, m2, hx2, -⟩ := id rd
  subst hx1 hx2
  have ha0 := ha
  obtain ⟨rows, hr1, hr2, hr3⟩ := ha0
  have hlm : (s.L.map (·.r)).length = s.L.length := List.length_map ..
  obtain ⟨A, c, hva⟩ := RowH.isSl hr1
  rw [hlm] at hva
  subst hva
  have hbox : ∀ {w' : World} {F : List (Nat × Obj)}, Owns w' ((g9, .cells (woV o (.slice B1 o.r.ts.length m1) (.slice B2 o.r.ds.length m2)).toArray 43 (0, 0)) :: F) → (sLoad 41 (.pointer (some ⟨g9, 3, none⟩))).run Try.prog w' = .ok (.value (.agg (reV o.r (.slice B1 o.r.ts.length m1) (.slice B2 o.r.ds.length m2)).toArray)) w' := fun hO => run_reN fun j u hu => by
    have hj : j < 12 := by have := (List.getElem?_eq_some_iff.1 hu).1; rwa [reV_len] at this
    have := cells_read (hO.at_ 0 rfl) (j + 3) u (by unfold woV; simpa using hu)
    rw [add_mk] at this ⊢
    rwa [show 3 + j = 0 + (j + 3) by omega]
  have hbn : ∀ {w' : World} {F : List (Nat × Obj)}, Owns w' ((g9, .cells (woV o (.slice B1 o.r.ts.length m1) (.slice B2 o.r.ds.length m2)).toArray 43 (0, 0)) :: F) → w'.cell? ⟨g9, 1, none⟩ = some (.int .i64 o.n) := fun hO => (cell_at (hO.at_ 0 rfl)).trans rfl
  have hdrop : ∀ {d' : Dv} {s' : Lg} {w' : World} {g3 : Addr}, SysF W ((g9, .cells (woV o (.slice B1 o.r.ts.length m1) (.slice B2 o.r.ds.length m2)).toArray 43 (0, 0)) :: h) (.pointer (some gd)) (.pointer (some g3)) d' s' w' → SysF W h (.pointer (some gd)) (.pointer (some g3)) d' s' w' := fun hS => by
    obtain ⟨rest, hO, hU, hback⟩ := hS.frame
    exact hback hU (hO.sub (List.sublist_cons_self _ _))
  simp (disch := first | assumption | omega) only [PX, BX, e0, e1, add_mk, Nat.reduceAdd]
  refine ⟨fun _ => ?_, fun _ => ?_⟩
  · rw [step_run (hbox hS.owns)]
    refine st_call (fAppend hS hI.fit (r := o.r) ⟨_, _, rfl, rt.mono hS.upd, rd.mono hS.upd⟩) ?_
    rintro _ w2 ⟨rfl, hS2⟩
    have hI2 := hI.join (r := o.r) (Int.le_refl _)
    simp (disch := first | assumption | omega) only [PX, BX, add_mk, Nat.reduceAdd]
    refine ⟨fun hz => ?_, fun hnz => ?_⟩
    · obtain ⟨j1, j2, j3, j4⟩ := joinL_ok hz
      rw [j4] at hS2 hI2
      rw [step_run (hbox hS2.owns)]
      obtain ⟨rest, hO2, hU2, hback⟩ := hS2.frame
      refine st_newRow (row_re o.r B1 B2 _ m1 _ m2) hU2 hO2 ?_
      intro g3 w3 hU3 hO3 hg3
      obtain ⟨inf, hi1, hz1, hsz, hby⟩ := inf41
      refine st_append (h := h) (F := (g3, .cells (reV o.r (.slice B1 o.r.ts.length m1) (.slice B2 o.r.ds.length m2)).toArray 41 (0, 0)) :: (g9, .cells (woV o (.slice B1 o.r.ts.length m1) (.slice B2 o.r.ds.length m2)).toArray 43 (0, 0)) :: rest) (ys := reV o.r (.slice B1 o.r.ts.length m1) (.slice B2 o.r.ds.length m2)) (m := 1) u31 hi1 hz1 hsz hby rfl (by omega) hr1 ?_ hU3 (fun p hp => .inr (hf p hp)) (rd_rowN (n := 1) (c := 1) (hO3.at_ 0 rfl) rfl (by omega) rfl) (reV_one _ rfl rfl) (by unfold maxLen; omega) (by omega) ?_
      · refine hO3.perm ?_
        classical
        refine List.perm_iff_count.2 fun y => ?_
        simp only [List.count_cons, List.count_append]
        omega
      intro v6 w6 h6 hr6 hO6 hU6 hh6
      refine gone_k3 e2 hi' hm (hback hU6 (hO6.sub (List.Sublist.append (List.Sublist.refl _) (.cons _ (.cons _ (List.Sublist.refl _)))))) hI2 hh ⟨rows ++ [reV o.r (.slice B1 o.r.ts.length m1) (.slice B2 o.r.ds.length m2)], ?_, ?_, fun k hk => ?_⟩ fun p hp => (hh6 p hp).resolve_left (by simp)
      · rw [List.flatMap_append, List.map_append, List.length_append]; simpa using hr6
      · rw [List.length_append, hr2, List.map_append, List.length_append]; rfl
      · have hk' : k < s.L.length + 1 := by simpa using hk
        by_cases hks : k < s.L.length
        · obtain ⟨vt, vd, he, q1, q2⟩ := hr3 k (by rw [hlm]; exact hks)
          have hel : (List.map (fun x => x.r) (s.L ++ [(⟨o.r, frB o.r⟩ : En)]))[k]'hk = (s.L.map (·.r))[k]'(by rw [hlm]; exact hks) := by
            rw [List.getElem_map, List.getElem_map, List.getElem_append_left hks]
          rw [hel]
          exact ⟨vt, vd, by rw [List.getElem?_append_left (by rw [hr2, hlm]; exact hks)]; exact he, q1, q2⟩
        · obtain rfl : k = s.L.length := by omega
          have hel : (List.map (fun x => x.r) (s.L ++ [(⟨o.r, frB o.r⟩ : En)]))[s.L.length]'hk = o.r := by simp
          rw [hel]
          exact ⟨_, _, by rw [List.getElem?_append_right (by rw [hr2, hlm]; exact Nat.le_refl _), hr2, hlm, Nat.sub_self]; rfl, rt, rd⟩
    · rw [joinL_no hnz] at hS2 hI2
      exact gone_k3 e2 hi' hm (hdrop hS2) hI2 hh ha hf
  · refine ⟨fun _ => ?_, fun _ => ⟨fun _ => ?_, fun _ => ⟨fun _ => ?_, fun _ => gone_k3 e2 hi' hm (hdrop hS) hI hh ha hf⟩⟩⟩
    · refine st_call (fForce hS hI.dok hI.fit) ?_
      rintro _ w2 ⟨-, hS2⟩
      obtain ⟨-, hI2, -, hs2⟩ := hI.force
      have q1 : (forceL d s).2.1.L = s.L ∧ (forceL d s).2.1.hand = s.hand := by rw [hs2]; split <;> exact ⟨rfl, rfl⟩
      exact gone_k3 e2 hi' hm (hdrop hS2) hI2 (by rw [q1.2]; exact hh) (by rw [q1.1]; exact ha) hf
    · refine st_call (fDone hS hI.dok hI.fit) ?_
      rintro _ w2 ⟨-, hS2⟩
      obtain ⟨hI2, -, hs2, -⟩ := hI.done
      have q1 : (doneL d s).2.1.L = s.L ∧ (doneL d s).2.1.hand = s.hand := by
        rw [hs2]
        split
        · exact ⟨rfl, rfl⟩
        · split <;> exact ⟨rfl, rfl⟩
      exact gone_k3 e2 hi' hm (hdrop hS2) hI2 (by rw [q1.2]; exact hh) (by rw [q1.1]; exact ha) hf
    · have cn := hbn hS.owns
      simp (disch := first | assumption | omega) only [LX]
      refine st_call (fCrash hS.dev hI.dok 2 o.n) ?_
      rintro _ w2 ⟨-, hD2⟩
      obtain ⟨j, hj, hjl, hat, -⟩ := hI.crash o.n
      rw [hh] at hat
      refine st_call (fOpen hD2 hat.dok 2) ?_
      rintro _ w3 ⟨hU3, (⟨hn, -⟩ | ⟨-, g3, rfl, hS3⟩)⟩
      · exact absurd hat.openE hn
      have hI3 := hat.inv
      rw [hat.openS] at hS3 hI3
      simp only [PX, BX]
      refine ⟨fun h => absurd rfl h, fun _ => ?_⟩
      refine st_call (fRecords hS3 hI3.fit) ?_
      rintro u w4 ⟨hU4, hN, hS4⟩
      have hR := hN.rd
      have hlt : (s.L.take j).length = j := by rw [List.length_take]; omega
      have hlm2 : ((s.L.take j).map (·.r)).length = j := by rw [List.length_map, hlt]
      obtain ⟨B, c2, rfl⟩ := hR.sl
      have hR : RdRs w4 (.slice B ((s.L.take j).map (·.r)).length c2) ((s.L.take j).map (·.r)) := hR
      rw [hlm2] at hR
      rw [show ((Lg.mk 2 (List.take j s.L) (flatB (List.take j s.L)).length (List.take j s.L).length 0 0 false 0).L.map fun x => x.r).length = j from hlm2]
      simp (disch := omega) only [PX, BX]
      refine ⟨fun h => absurd h (by omega), fun _ => ?_⟩
      obtain ⟨hjc, hat2⟩ := AllH.take (m := j) ha (by rw [hlm]; exact hjl)
      have hh4 := (hS4.owns.sub (List.sublist_cons_self _ _))
      have hRa := hat2.rd hS4.upd hh4
      rw [← List.map_take] at hRa hat2
      rw [step_run (run_sliceTo u31 sz41 (by omega) (by omega)), show ((j : Nat) : Int).toNat = j by omega]
      refine st_call (SameRecords_spec w4 _ _ _ _ hR hRa) ?_
      rintro _ w5 ⟨rfl, hU5⟩
      have hS5 := hS4.ext hU5
      rw [decide_eq_true rfl]
      simp only [PX, BX, Bool.not_true]
      rw [step_run (run_sliceTo u31 sz41 (by omega) (by omega)), show ((j : Nat) : Int).toNat = j by omega]
      exact gone_k3 e2 hi' hm (hdrop hS5) hI3 rfl hat2 hf
end Go.Proofs.Ytplpjikcgheiiaa.Wal
