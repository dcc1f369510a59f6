/- Texts of this work, put together: WalF, WalG, WalH, WalI, WalJ, WalK, WalL, WalM, WalN, WalO, WalP, WalQ, WalR, WalS, WalT, WalU, WalV, WalW, WalX. -/
import Derived.Test.YtplpjikcgheiiaaU5
/- Logs: scan. -/
namespace Go.Proofs.Ytplpjikcgheiiaa.Wal
open Go Go.Proofs.Ytplpjikcgheiiaa Go.Proofs.Ytplpjikcgheiiaa.Rec Xf Go.RowKit
set_option linter.unusedVariables false
set_option linter.unusedSimpArgs false
set_option maxRecDepth 100000

theorem toldB_le {B : List UInt8} (h : 64 ≤ B.length) : toldB B + 64 ≤ B.length := by
  unfold toldB
  split
  · omega
  · split
    · omega
    · split
      · omega
      · omega
noncomputable def scanD (B : List UInt8) : List En × Nat := if B.length < 64 then ([], 0) else scanB ((B.drop 64).take (toldB B))
theorem row_en (x : En) (A1 A2 A3 : Option Addr) (n1 c1 n2 c2 n3 c3 : Nat) (w : World) : (sBuildSlice 87 1 [(0, .agg (enV x (.slice A1 n1 c1) (.slice A2 n2 c2) (.slice A3 n3 c3)).toArray)]).run Try.prog w = .ok (.value (.slice (some ⟨w.heap.size, 0, none⟩) 1 1)) (w.alloc (.cells (enV x (.slice A1 n1 c1) (.slice A2 n2 c2) (.slice A3 n3 c3)).toArray 95)) := by kernel_rfl
theorem build_en (x : En) (A1 A2 A3 : Option Addr) (n1 c1 n2 c2 n3 c3 : Nat) (w : World) : (sBuild 95 [(0, .agg (reV x.r (.slice A1 n1 c1) (.slice A2 n2 c2)).toArray), (1, .slice A3 n3 c3)]).run Try.prog w = .ok (.value (.agg (enV x (.slice A1 n1 c1) (.slice A2 n2 c2) (.slice A3 n3 c3)).toArray)) w := by kernel_rfl
/-- what scan tells -/
def ScanR (w : World) (G : List (Nat × Obj)) (s : List En × Nat) (u : Value) (w' : World) : Prop :=
  ∃ x rows ho hk, u = .tuple #[x, .int .i64 (s.2 : Nat)] ∧ Upd w w' [] ∧ RowH 95 13 x s.1.length (rows.flatMap id) ho ∧ OutE s.1 rows hk ∧ Owns w' (ho ++ (hk ++ G)) ∧ ∀ p ∈ ho ++ hk, w.heap.size ≤ p.1

theorem OutE.snoc {L : List En} {e : En} {rows : List (List Value)} {vt vd vb : Value} {hk hk' : List (Nat × Obj)} (h : OutE L rows hk) (hs : ∀ p ∈ hk, p ∈ hk') (o1 : vt.oneCell' = true) (o2 : vd.oneCell' = true) (o3 : vb.oneCell' = true)
    (hr : ∀ w, stands w hk' → RdS w txV 3 vt e.r.ts ∧ RdS w diV 2 vd e.r.ds ∧ Rd w 1 vb e.b.length (bytesV e.b)) : OutE (L ++ [e]) (rows ++ [enV e vt vd vb]) hk' := by
  refine ⟨by simp [h.1], fun i hi => ?_⟩
  have hl := h.1
  by_cases hL : i < L.length
  · obtain ⟨a, c, d, he, p1, p2, p3, p4⟩ := h.2 i hL
    refine ⟨a, c, d, ?_, p1, p2, p3, fun w hw => ?_⟩
    · rw [List.getElem?_append_left (by omega), he, List.getElem_append_left hL]
    · rw [List.getElem_append_left hL]; exact p4 w fun p hp => hw p (hs p hp)
  · have : i = L.length := by simp at hi; omega
    subst this
    refine ⟨vt, vd, vb, ?_, o1, o2, o3, fun w hw => ?_⟩
    · rw [List.getElem?_append_right (by omega)]; simp [hl]
    · simpa using hr w hw

theorem scan_spec {w : World} {d : Dv} {v : Value} {h G : List (Nat × Obj)} (hd : DevH d v h) (hB : d.B.length ≤ 65536) (hG : ∀ p ∈ h, p ∈ G) (hO : Owns w G) :
    CallsR Try.prog 40 #[v] w fun u w' => ScanR w G (scanD d.B) u w' := by
  apply wal_scan_sound
  unfold wal_scan_x
  refine st_call (Size_spec hd hG hO) ?_
  rintro _ w1 ⟨rfl, rfl⟩
  simp only [PX, BX]
  refine ⟨fun hlt => ?_, fun hge => ?_⟩
  · have : scanD d.B = ([], 0) := by unfold scanD; rw [if_pos (by omega)]
    rw [this]
    exact ⟨_, [], [], [], rfl, Upd.refl w1 [], RowH.nil_ _ _, ⟨rfl, fun i hi => by simp at hi⟩, hO, fun p hp => by cases hp⟩
  have hge' : 64 ≤ d.B.length := by omega
  have ht := toldB_le hge'
  refine st_call (told_spec hd hB hG hO) ?_
  rintro _ w2 ⟨rfl, hU2, hO2⟩
  refine st_call (Read_spec hd hB hG hO2 hU2 64 (toldB d.B : Nat)) ?_
  rintro r w3 ⟨hU3, (⟨hro, rfl, hO3⟩ | ⟨hro, vr, hr, rfl, r1, hO3, hfr⟩)⟩
  · unfold readOut at hro; omega
  have hsc : scanD d.B = scanB ((d.B.drop 64).take (toldB d.B)) := by unfold scanD; rw [if_neg (by omega)]
  rw [hsc]
  clear hsc
  rw [show (64 : Int).toNat = 64 from rfl, show ((toldB d.B : Nat) : Int).toNat = toldB d.B by omega] at r1
  generalize hb : (d.B.drop 64).take (toldB d.B) = b at r1 ⊢
  have hbl : b.length = toldB d.B := by rw [← hb, List.length_take, List.length_drop]; omega
  rw [← hbl] at r1
  simp only [PX]
  refine st_loop (fun vs w' => ∃ (k : Nat) (s : List En × Nat) (rows : List (List Value)) (ho hk : List (Nat × Obj)) (x : Value), vs.getD 0 undef = x ∧ vs.getD 1 undef = .int .i64 (s.2 : Nat) ∧ scanB b = scanW b k s ∧ b.length + 1 ≤ k + s.2 ∧ s.2 ≤ b.length ∧ s.1.length * 6 ≤ s.2 ∧ Upd w1 w' [] ∧ RowH 95 13 x s.1.length (rows.flatMap id) ho ∧ OutE s.1 rows (hk ++ hr) ∧ Owns w' (ho ++ ((hk ++ hr) ++ G)) ∧ ∀ p ∈ ho ++ (hk ++ hr), w1.heap.size ≤ p.1)
    (fun vs _ => b.length - (intOf (vs.getD 1 undef)).toNat) ⟨b.length + 1, ([], 0), [], [], [], .slice none 0 0, rfl, rfl, rfl, by simp, by simp, by simp, hU3, RowH.nil_ _ _, ⟨rfl, fun i hi => by simp at hi⟩, by simpa using hO3, by simpa using hfr⟩ ?_
  clear hU2 hO2 hU3 hO3
  rintro dv vs w4 - ⟨k, ⟨L, at_⟩, rows, ho, hk, x, e0, e1, hsw, hkk, hat, hL6, hU4, hrow, hout, hO4, hfr4⟩
  simp only at e1 hkk hat hL6 hrow hout
  simp only [e0, e1]
  have hOr : Owns w4 hr := hO4.sub ((List.sublist_append_right hk hr).trans ((List.sublist_append_left (hk ++ hr) G).trans (List.sublist_append_right ho _)))
  obtain ⟨Ar, cr, rfl, hcr, -⟩ := r1.rd (F := []) (by rw [List.append_nil]; exact hOr)
  have hrd := r1.rd (F := []) (by rw [List.append_nil]; exact hOr)
  rw [step_run (run_sliceFrom (i := ((at_ : Nat) : Int)) u51 sz5 (by omega) (by omega) hcr), show ((at_ : Nat) : Int).toNat = at_ by omega]
  have hrt := hrd.drop (i := at_) (by omega)
  rw [Nat.mul_one, show (bytesV b).drop at_ = bytesV (b.drop at_) by simp [bytesV, List.map_drop]] at hrt
  refine st_call (Unframe_spec w4 _ (b.drop at_) (by rw [List.length_drop]; omega) (by rw [List.length_drop, Nat.mul_one]; exact hrt)) ?_
  rintro _ w5 ⟨y, rfl, hN⟩
  simp only [PX]
  obtain ⟨yt, yd, kt, kd, rfl, y1, y2, y3, y4, y5⟩ := hN
  have hO5 : Owns w5 ((kt ++ kd) ++ (ho ++ ((hk ++ hr) ++ G))) := Enc.owns_app hO4 y5 y4 y3
  obtain ⟨B1, m1, hyt, _⟩ := RowH.rdS y1 (stands.of (y4.sub (List.sublist_append_left _ _)))
  obtain ⟨B2, m2, hyd, _⟩ := RowH.rdS y2 (stands.of (y4.sub (List.sublist_append_right _ _)))
  subst hyt hyd
  refine st_alloc ze_re (hU4.trans y5) hO5 ?_
  intro g8 w6 hU6 hO6 hg8
  refine st_re (r0 := re0) (vt0 := nilS) (vd0 := nilS) hU6 hO6 0 rfl (Rec.RowH.one y1).1 (Rec.RowH.one y2).1 (.inr hg8) ?_
  intro w7 hU7 hO7
  let HH := (g8, reO (unfR (b.drop at_)).1 (.slice B1 (unfR (b.drop at_)).1.ts.length m1) (.slice B2 (unfR (b.drop at_)).1.ds.length m2)) :: ((kt ++ kd) ++ (ho ++ ((hk ++ hr) ++ G)))
  have hO7 : Owns w7 HH := hO7
  have hU8 := hU7.trans (Upd.drew w7 [])
  have hO8 : Owns w7.drew HH := hO7.ext (Upd.drew w7 [])
  have hOe : Owns w7.drew (ho ++ ((hk ++ hr) ++ G)) := hO8.sub (.cons _ (List.sublist_append_right _ _))
  have hne : ∃ w', stands w' HH := ⟨_, stands.of hO8⟩
  refine st_draw (fun w' => stands w' HH) (stands.of hO8) ?_
  have hend : scanB b = (L, at_) → ScanR w1 G (scanB b) (.tuple #[x, .int .i64 (at_ : Nat)]) w7.drew := fun he => by
    rw [he]
    exact ⟨x, rows, ho, hk ++ hr, rfl, hU8, hrow, hout, hOe, hfr4⟩
  obtain ⟨k, rfl⟩ : ∃ k', k = k' + 1 := ⟨k - 1, by omega⟩
  have hstop : nextS b (L, at_) = none → scanB b = (L, at_) := fun hn => by rw [hsw]; unfold scanW; rw [hn]
  simp (disch := first | exact hne | omega) only [SX, BX]
  refine ⟨fun herr => hend (hstop (by unfold nextS; rw [if_pos (by intro h; apply herr; rw [h]; rfl)])), fun herr => ?_⟩
  have he0 : (unfR (b.drop at_)).2.2 = 0 := by
    by_cases h : (unfR (b.drop at_)).2.2 = 0
    · exact h
    · exact absurd (by omega) herr
  have hsO : ∀ w', stands w' HH → stands w' (ho ++ ((hk ++ hr) ++ G)) := fun w' hs p hp => hs p (List.mem_cons_of_mem _ (List.mem_append_right _ hp))
  have hRd : ∀ w', stands w' HH → RdE w' x L := fun w' hs => hout.rd hrow (fun p hp => hsO w' hs p (List.mem_append_left _ hp)) (fun p hp => hsO w' hs p (List.mem_append_right _ (List.mem_append_left _ hp)))
  obtain ⟨Ax, cx, hx, hmx, hE0⟩ := hRd _ (stands.of hO8)
  subst hx
  simp (disch := first | exact hne | omega) only [SX, BX]
  have hfit := unfR_fits he0
  refine ⟨fun h0 => ?_, fun h0 => ?_⟩
  · obtain ⟨a, -, -, -, rfl, -⟩ := hE0 (L.length - 1) (by omega)
    have hc : ∀ w', stands w' HH → w'.cell? ((a.add ((L.length - 1) * 13)).add 1) = some (.int .u64 L[L.length - 1].r.lsn) := fun w' hs => by
      obtain ⟨A', c', he, -, h'⟩ := hRd w' hs
      obtain ⟨a', vt, vd, vb, hA, hc', -⟩ := h' (L.length - 1) (by omega)
      subst hA
      injection he with he
      injection he with he
      rw [he]
      exact hc' 1 _ rfl
    have hlast : lastL L = L[L.length - 1].r.lsn := by
      unfold lastL
      rw [List.getLast?_eq_getElem?, List.getElem?_eq_getElem (by omega)]
    rw [stepS_run hne fun w' hs => run_sLoad (run_loadVar1 ag34 (cells_read (hs _ (List.mem_cons_self ..)) 1 _ rfl))]
    have hwr : IntKind.i64.wrap ((L.length : Int) - 1) = ((L.length - 1 : Nat) : Int) := by rw [w64 (by omega) (by omega)]; omega
    rw [hwr]
    simp (disch := first | exact hne | omega) only [SX, BX]
    rw [sld34 hne hc]
    simp (disch := first | exact hne | omega) only [SX, BX]
    refine ⟨fun hle => hend (hstop (by unfold nextS; rw [if_neg (by simpa using he0), if_pos ⟨by show L ≠ []; intro hh; rw [hh] at h0; simp at h0, by show (unfR (b.drop at_)).1.lsn ≤ lastL L; rw [hlast]; omega⟩])), fun hgt => ?_⟩
    have hnx : nextS b (L, at_) = some (L ++ [⟨(unfR (b.drop at_)).1, (b.drop at_).take (unfR (b.drop at_)).2.1⟩], at_ + (unfR (b.drop at_)).2.1) := by
      unfold nextS
      rw [if_neg (by simpa using he0), if_neg (by rw [hlast]; rintro ⟨-, hh⟩; simp only at hh; omega)]
    clear hlast hc hgt h0
    unfold wal_scan_k1
    have hO9 : Owns w7.drew.drew HH := hO8.ext (Upd.drew _ [])
    have hU9 := hU8.trans (Upd.drew w7.drew [])
    refine st_draw (fun w' => stands w' HH) (stands.of hO9) ?_
    have hln : (b.drop at_).length = b.length - at_ := List.length_drop
    have hfit2 := hfit.2.1
    rw [hln] at hfit2
    have hw2 : IntKind.i64.wrap ((at_ : Int) + ((unfR (b.drop at_)).2.1 : Nat)) = ((at_ + (unfR (b.drop at_)).2.1 : Nat) : Int) := by rw [w64 (by omega) (by omega)]; omega
    rw [stepS_run hne fun w' hs => run_reN (cells_read (hs _ (List.mem_cons_self ..)))]
    simp (disch := first | exact hne | omega) only [e0, e1, SX, BX, hw2]
    rw [stepS_run hne fun w' _ => run_slice2 u51 sz5 (by omega) (by omega)]
    rw [step_run (build_en ⟨(unfR (b.drop at_)).1, (b.drop at_).take (unfR (b.drop at_)).2.1⟩ B1 B2 _ _ m1 _ m2 _ _ _)]
    refine st_same (stands.of hO9) ?_
    refine st_newRow (row_en _ B1 B2 _ _ m1 _ m2 _ _) hU9 hO9 ?_
    intro g10 w10 hU10 hO10 hg10
    refine st_same (stands.of (hO10.sub (List.sublist_cons_self _ _))) ?_
    have q1 := (Rec.RowH.one y1).1
    have q2 := (Rec.RowH.one y2).1
    obtain ⟨inf, hi1, hz1, hsz, hby⟩ := inf95
    refine st_append (h := ho) (F := (g10, .cells (enV ⟨(unfR (b.drop at_)).1, (b.drop at_).take (unfR (b.drop at_)).2.1⟩ (.slice B1 (unfR (b.drop at_)).1.ts.length m1) (.slice B2 (unfR (b.drop at_)).1.ds.length m2) (.slice (if cr = at_ then Ar else Option.map (fun x => x.add (at_ * 1)) Ar) (at_ + (unfR (b.drop at_)).2.1 - at_) (cr - at_))).toArray 95 (0, 0)) :: (g8, reO (unfR (b.drop at_)).1 (.slice B1 (unfR (b.drop at_)).1.ts.length m1) (.slice B2 (unfR (b.drop at_)).1.ds.length m2)) :: ((kt ++ kd) ++ ((hk ++ hr) ++ G))) (ys := enV ⟨(unfR (b.drop at_)).1, (b.drop at_).take (unfR (b.drop at_)).2.1⟩ (.slice B1 (unfR (b.drop at_)).1.ts.length m1) (.slice B2 (unfR (b.drop at_)).1.ds.length m2) (.slice (if cr = at_ then Ar else Option.map (fun x => x.add (at_ * 1)) Ar) (at_ + (unfR (b.drop at_)).2.1 - at_) (cr - at_))) (m := 1) u87 hi1 hz1 hsz hby rfl (by omega) hrow ?_ hU10 (fun p hp => .inr (hfr4 p (List.mem_append_left _ hp))) (rd_rowN (n := 1) (c := 1) (hO10.at_ 0 rfl) rfl (by omega) rfl) (enV_one _ q1 q2 rfl) (by unfold maxLen; omega) (by omega) ?_
    · refine hO10.perm ?_
      classical
      refine List.perm_iff_count.2 fun y => ?_
      simp only [HH, List.count_cons, List.count_append]
      omega
    intro v6 w11 h6 hr6 hO11 hU11 hh6
    refine st_keepT (fun _ => True) trivial ?_
    simp (disch := omega) only [PX, BX, hw2]
    have hbl2 : ((b.drop at_).take (unfR (b.drop at_)).2.1).length = (unfR (b.drop at_)).2.1 := by rw [List.length_take, hln]; omega
    refine ⟨⟨k, (L ++ [⟨(unfR (b.drop at_)).1, (b.drop at_).take (unfR (b.drop at_)).2.1⟩], at_ + (unfR (b.drop at_)).2.1), rows ++ [_], h6, (kt ++ kd) ++ hk, v6, rfl, rfl, ?_, ?_, ?_, ?_, hU11, ?_, OutE.snoc (vb := (.slice (if cr = at_ then Ar else Option.map (fun x => x.add (at_ * 1)) Ar) (at_ + (unfR (b.drop at_)).2.1 - at_) (cr - at_))) (hk := hk ++ hr) hout (fun p hp => by grind) q1 q2 rfl ?_, ?_, ?_⟩, ?_⟩
    · rw [hsw]; show (match nextS b (L, at_) with | none => (L, at_) | some s' => scanW b k s') = _; rw [hnx]
    · have := hfit.1; simp only; omega
    · simp only; omega
    · have := hfit.1; simp only [List.length_append, List.length_singleton]; omega
    · rw [List.flatMap_append, List.length_append]; simpa using hr6
    · intro w hs
      refine ⟨RowH.rdS y1 fun p hp => hs p (by grind), RowH.rdS y2 fun p hp => hs p (by grind), ?_⟩
      have hq := (r1.rd (w := w) (F := []) (by rw [List.append_nil]; exact ⟨hOr.1, fun p hp => hs p (List.mem_append_right _ hp)⟩)).drop (i := at_) (by omega)
      have hq2 := hq.short (m := (unfR (b.drop at_)).2.1) (by omega)
      rw [hbl2, show at_ + (unfR (b.drop at_)).2.1 - at_ = (unfR (b.drop at_)).2.1 by omega]
      rw [Nat.mul_one, show ((bytesV b).drop at_).take ((unfR (b.drop at_)).2.1 * 1) = bytesV ((b.drop at_).take (unfR (b.drop at_)).2.1) by simp [bytesV, List.map_drop, List.map_take]] at hq2
      rw [Nat.mul_one]
      exact hq2
    · refine (hO11.sub (List.Sublist.append (List.Sublist.refl _) (.cons _ (.cons _ (List.Sublist.refl _))))).perm ?_
      simp only [List.append_assoc]
      exact List.Perm.refl _
    · intro p hp
      have h1 := hU4.size
      rcases List.mem_append.1 hp with hp | hp
      · exact (hh6 p hp).resolve_left (by simp)
      · rcases List.mem_append.1 hp with hp | hp
        · rcases List.mem_append.1 hp with hp | hp
          · exact Nat.le_trans h1 (y3 p hp)
          · exact hfr4 p (by grind)
        · exact hfr4 p (by grind)
    · have := hfit.1
      show b.length - (intOf (.int .i64 ((at_ + (unfR (b.drop at_)).2.1 : Nat) : Int))).toNat < b.length - (intOf (.int .i64 ((at_ : Nat) : Int))).toNat
      simp only [intOf]
      omega
  · have hL0 : L = [] := List.eq_nil_of_length_eq_zero (by omega)
    have hnx : nextS b (L, at_) = some (L ++ [⟨(unfR (b.drop at_)).1, (b.drop at_).take (unfR (b.drop at_)).2.1⟩], at_ + (unfR (b.drop at_)).2.1) := by
      unfold nextS
      rw [if_neg (by simpa using he0), if_neg (by intro hh; exact hh.1 hL0)]
    clear hL0 h0
    unfold wal_scan_k1
    have hO9 : Owns w7.drew.drew HH := hO8.ext (Upd.drew _ [])
    have hU9 := hU8.trans (Upd.drew w7.drew [])
    refine st_draw (fun w' => stands w' HH) (stands.of hO9) ?_
    have hln : (b.drop at_).length = b.length - at_ := List.length_drop
    have hfit2 := hfit.2.1
    rw [hln] at hfit2
    have hw2 : IntKind.i64.wrap ((at_ : Int) + ((unfR (b.drop at_)).2.1 : Nat)) = ((at_ + (unfR (b.drop at_)).2.1 : Nat) : Int) := by rw [w64 (by omega) (by omega)]; omega
    rw [stepS_run hne fun w' hs => run_reN (cells_read (hs _ (List.mem_cons_self ..)))]
    simp (disch := first | exact hne | omega) only [e0, e1, SX, BX, hw2]
    rw [stepS_run hne fun w' _ => run_slice2 u51 sz5 (by omega) (by omega)]
    rw [step_run (build_en ⟨(unfR (b.drop at_)).1, (b.drop at_).take (unfR (b.drop at_)).2.1⟩ B1 B2 _ _ m1 _ m2 _ _ _)]
    refine st_same (stands.of hO9) ?_
    refine st_newRow (row_en _ B1 B2 _ _ m1 _ m2 _ _) hU9 hO9 ?_
    intro g10 w10 hU10 hO10 hg10
    refine st_same (stands.of (hO10.sub (List.sublist_cons_self _ _))) ?_
    have q1 := (Rec.RowH.one y1).1
    have q2 := (Rec.RowH.one y2).1
    obtain ⟨inf, hi1, hz1, hsz, hby⟩ := inf95
    refine st_append (h := ho) (F := (g10, .cells (enV ⟨(unfR (b.drop at_)).1, (b.drop at_).take (unfR (b.drop at_)).2.1⟩ (.slice B1 (unfR (b.drop at_)).1.ts.length m1) (.slice B2 (unfR (b.drop at_)).1.ds.length m2) (.slice (if cr = at_ then Ar else Option.map (fun x => x.add (at_ * 1)) Ar) (at_ + (unfR (b.drop at_)).2.1 - at_) (cr - at_))).toArray 95 (0, 0)) :: (g8, reO (unfR (b.drop at_)).1 (.slice B1 (unfR (b.drop at_)).1.ts.length m1) (.slice B2 (unfR (b.drop at_)).1.ds.length m2)) :: ((kt ++ kd) ++ ((hk ++ hr) ++ G))) (ys := enV ⟨(unfR (b.drop at_)).1, (b.drop at_).take (unfR (b.drop at_)).2.1⟩ (.slice B1 (unfR (b.drop at_)).1.ts.length m1) (.slice B2 (unfR (b.drop at_)).1.ds.length m2) (.slice (if cr = at_ then Ar else Option.map (fun x => x.add (at_ * 1)) Ar) (at_ + (unfR (b.drop at_)).2.1 - at_) (cr - at_))) (m := 1) u87 hi1 hz1 hsz hby rfl (by omega) hrow ?_ hU10 (fun p hp => .inr (hfr4 p (List.mem_append_left _ hp))) (rd_rowN (n := 1) (c := 1) (hO10.at_ 0 rfl) rfl (by omega) rfl) (enV_one _ q1 q2 rfl) (by unfold maxLen; omega) (by omega) ?_
    · refine hO10.perm ?_
      classical
      refine List.perm_iff_count.2 fun y => ?_
      simp only [HH, List.count_cons, List.count_append]
      omega
    intro v6 w11 h6 hr6 hO11 hU11 hh6
    refine st_keepT (fun _ => True) trivial ?_
    simp (disch := omega) only [PX, BX, hw2]
    have hbl2 : ((b.drop at_).take (unfR (b.drop at_)).2.1).length = (unfR (b.drop at_)).2.1 := by rw [List.length_take, hln]; omega
    refine ⟨⟨k, (L ++ [⟨(unfR (b.drop at_)).1, (b.drop at_).take (unfR (b.drop at_)).2.1⟩], at_ + (unfR (b.drop at_)).2.1), rows ++ [_], h6, (kt ++ kd) ++ hk, v6, rfl, rfl, ?_, ?_, ?_, ?_, hU11, ?_, OutE.snoc (vb := (.slice (if cr = at_ then Ar else Option.map (fun x => x.add (at_ * 1)) Ar) (at_ + (unfR (b.drop at_)).2.1 - at_) (cr - at_))) (hk := hk ++ hr) hout (fun p hp => by grind) q1 q2 rfl ?_, ?_, ?_⟩, ?_⟩
    · rw [hsw]; show (match nextS b (L, at_) with | none => (L, at_) | some s' => scanW b k s') = _; rw [hnx]
    · have := hfit.1; simp only; omega
    · simp only; omega
    · have := hfit.1; simp only [List.length_append, List.length_singleton]; omega
    · rw [List.flatMap_append, List.length_append]; simpa using hr6
    · intro w hs
      refine ⟨RowH.rdS y1 fun p hp => hs p (by grind), RowH.rdS y2 fun p hp => hs p (by grind), ?_⟩
      have hq := (r1.rd (w := w) (F := []) (by rw [List.append_nil]; exact ⟨hOr.1, fun p hp => hs p (List.mem_append_right _ hp)⟩)).drop (i := at_) (by omega)
      have hq2 := hq.short (m := (unfR (b.drop at_)).2.1) (by omega)
      rw [hbl2, show at_ + (unfR (b.drop at_)).2.1 - at_ = (unfR (b.drop at_)).2.1 by omega]
      rw [Nat.mul_one, show ((bytesV b).drop at_).take ((unfR (b.drop at_)).2.1 * 1) = bytesV ((b.drop at_).take (unfR (b.drop at_)).2.1) by simp [bytesV, List.map_drop, List.map_take]] at hq2
      rw [Nat.mul_one]
      exact hq2
    · refine (hO11.sub (List.Sublist.append (List.Sublist.refl _) (.cons _ (.cons _ (List.Sublist.refl _))))).perm ?_
      simp only [List.append_assoc]
      exact List.Perm.refl _
    · intro p hp
      have h1 := hU4.size
      rcases List.mem_append.1 hp with hp | hp
      · exact (hh6 p hp).resolve_left (by simp)
      · rcases List.mem_append.1 hp with hp | hp
        · rcases List.mem_append.1 hp with hp | hp
          · exact Nat.le_trans h1 (y3 p hp)
          · exact hfr4 p (by grind)
        · exact hfr4 p (by grind)
    · have := hfit.1
      show b.length - (intOf (.int .i64 ((at_ + (unfR (b.drop at_)).2.1 : Nat) : Int))).toNat < b.length - (intOf (.int .i64 ((at_ : Nat) : Int))).toNat
      simp only [intOf]
      omega
end Go.Proofs.Ytplpjikcgheiiaa.Wal

/- Logs: Read. -/
namespace Go.Proofs.Ytplpjikcgheiiaa.Wal
open Go Go.Proofs.Ytplpjikcgheiiaa Go.Proofs.Ytplpjikcgheiiaa.Rec Xf Go.RowKit
set_option linter.unusedVariables false
set_option linter.unusedSimpArgs false
set_option maxRecDepth 100000

/-- what holds of each state of a scan -/
def ScanI (b : List UInt8) (s : List En × Nat) : Prop := (∀ x ∈ s.1, okP x.r) ∧ s.2 ≤ b.length ∧ s.1.length * 6 ≤ s.2
theorem nextS_inv {b : List UInt8} {s s' : List En × Nat} (hi : ScanI b s) (h : nextS b s = some s') : ScanI b s' := by
  unfold nextS at h
  split at h
  · cases h
  rename_i h1
  split at h
  · cases h
  have hf := unfR_fits (Decidable.not_not.1 h1)
  have h2 := hf.2.1
  rw [List.length_drop] at h2
  injection h with h
  subst h
  refine ⟨fun x hx => ?_, ?_, ?_⟩
  · rcases List.mem_append.1 hx with hx | hx
    · exact hi.1 x hx
    · rw [List.mem_singleton] at hx; subst hx; exact hf.2.2
  · have := hi.2.1; simp only; omega
  · have := hi.2.2; simp only [List.length_append, List.length_singleton]; omega
theorem scanW_inv {b : List UInt8} : ∀ (k : Nat) {s : List En × Nat}, ScanI b s → ScanI b (scanW b k s)
  | 0, s, h => h
  | k + 1, s, h => by
    show ScanI b (match nextS b s with | none => s | some s' => scanW b k s')
    cases hn : nextS b s with
    | none => exact h
    | some s' => exact scanW_inv k (nextS_inv h hn)
theorem scanB_inv (b : List UInt8) : ScanI b (scanB b) := scanW_inv _ ⟨by simp, by simp, by simp⟩
theorem scanD_ok (B : List UInt8) : (∀ x ∈ (scanD B).1, okP x.r) ∧ (scanD B).2 ≤ B.length ∧ (scanD B).1.length * 6 ≤ (scanD B).2 := by
  unfold scanD
  split
  · exact ⟨by simp, by simp, by simp⟩
  · have := scanB_inv ((B.drop 64).take (toldB B))
    refine ⟨this.1, Nat.le_trans this.2.1 ?_, this.2.2⟩
    rw [List.length_take, List.length_drop]; omega

theorem Read_log_spec {w : World} {d : Dv} {v : Value} {h G : List (Nat × Obj)} (hd : DevH d v h) (hB : d.B.length ≤ 65536) (hG : ∀ p ∈ h, p ∈ G) (hO : Owns w G) :
    CallsR Try.prog 21 #[v] w fun u w' => Upd w w' [] ∧ RdRs w' u ((scanD d.B).1.map (·.r)) := by
  apply wal_Read_sound
  unfold wal_Read_x
  refine st_call (scan_spec hd hB hG hO) ?_
  rintro _ w1 ⟨x, rows, ho, hk, rfl, hU1, hrow, hout, hO1, hfr⟩
  have hok := scanD_ok d.B
  simp only [PX]
  have hE : RdE w1 x (scanD d.B).1 := hout.rd hrow (fun p hp => hO1.2 p (List.mem_append_left _ hp)) (fun p hp => hO1.2 p (List.mem_append_right _ (List.mem_append_left _ hp)))
  refine st_call (records_spec w1 x _ (fun y hy => small_of (hok.1 y hy)) (by omega) hE) ?_
  rintro u w2 ⟨hU2, hR⟩
  exact ⟨hU1.trans hU2, hR⟩
end Go.Proofs.Ytplpjikcgheiiaa.Wal

/- Logs: what the reference tells of a device. -/
namespace Go.Proofs.Ytplpjikcgheiiaa.Wal
open Go Go.Proofs.Ytplpjikcgheiiaa Go.Proofs.Ytplpjikcgheiiaa.Rec Xf Go.RowKit
set_option linter.unusedVariables false
set_option linter.unusedSimpArgs false
set_option maxRecDepth 100000

theorem rTold_spec {w : World} {G : List (Nat × Obj)} {B : List UInt8} {cs : List Value} (hc : cs[0]? = some (.string ⟨B.toArray⟩)) (hB : B.length ≤ 65536) (hO : Owns w G) :
    CallsR Try.prog 52 #[.agg cs.toArray] w fun r w' => r = .int .i64 (toldB B : Nat) ∧ Upd w w' [] := by
  apply flotillaref09_Told_sound
  unfold flotillaref09_Told_x
  refine st_box (Upd.refl w []) hO ?_
  intro g w1 hU1 hO1 hg
  have hcell : ∀ w', Upd w1 w' [] → w'.cell? ⟨g, 0, none⟩ = some (.string ⟨B.toArray⟩) := fun w' hU => cells_read ((hO1.ext hU).at_ 0 rfl) 0 _ (by show cs.toArray.toList[0]? = _; simpa using hc)
  simp (disch := omega) only [PX, BX, ld9 (hcell _ (Upd.refl w1 [])), size_mk]
  have h0 : B.length < 64 → toldB B = 0 := fun h => by
    unfold toldB
    split
    · rfl
    · split
      · rfl
      · rw [if_pos (by omega)]
  refine ⟨fun h => ⟨by rw [h0 (by omega)]; rfl, hU1⟩, fun h => ?_⟩
  rw [step_run (Crc.run_strTo (l := B) (i := 8) u9 (by omega) (by omega))]
  refine st_call (Crc.rOpen_spec w1 (B.take 8) (by rw [List.length_take]; omega)) ?_
  rintro _ w2 ⟨rfl, hU2⟩
  simp (disch := omega) only [PX, BX]
  have hop : Crc.openL (B.take 8) = ([], 6) ∨ ((Crc.openL (B.take 8)).2 = 0 ∧ (Crc.openL (B.take 8)).1.length = 4) := by
    have hlen : (B.take 8).length = 8 := by rw [List.length_take]; omega
    unfold Crc.openL
    rw [if_neg (by omega)]
    split
    · right; refine ⟨rfl, ?_⟩; simp only; rw [List.length_take]; omega
    · left; rfl
  have htold : toldB B = if (Crc.openL (B.take 8)).2 ≠ 0 then 0 else if (B.length : Int) - 64 < (Enc.leVal ((Crc.openL (B.take 8)).1.take 4) : Int) then 0 else Enc.leVal ((Crc.openL (B.take 8)).1.take 4) := by unfold toldB; rw [if_neg (by omega)]
  generalize hX : Crc.openL (B.take 8) = X at hop htold ⊢
  refine ⟨fun hne => ?_, fun heq => ?_⟩
  · have h6 : X = ([], 6) := hop.resolve_right fun h => hne (by rw [h.1]; rfl)
    exact ⟨by rw [htold, h6, if_pos (by simp)]; rfl, hU1.trans hU2⟩
  obtain ⟨hX0, hXl⟩ : X.2 = 0 ∧ X.1.length = 4 := by
    rcases hop with h | h
    · rw [h] at heq; exact absurd (by decide) heq
    · exact h
  rw [if_neg (by rw [hX0]; simp)] at htold
  refine st_draw (fun _ => True) trivial ?_
  have hne : ∃ w : World, (fun _ => True) w := ⟨w2, trivial⟩
  obtain ⟨⟨L4, e4⟩, hXe⟩ : ∃ Y, X = Y := ⟨X, rfl⟩
  subst hXe
  simp only at hXl htold hX0
  match L4, hXl with
  | [p, q, r, s], _ =>
  have ix : ∀ (k : Int) (b : UInt8), (0 : Int) ≤ k → [p, q, r, s][k.toNat]? = some b → ∀ w' : World, True → (sIndex 9 (.string ⟨[p, q, r, s].toArray⟩) (.int .i64 k)).run Try.prog w' = .ok (.value (.int .u8 b.toNat)) w' := fun k b hk hb w' _ => run_idxStr u9 hk hb
  have b0 := UInt8.toNat_lt p
  have b1 := UInt8.toNat_lt q
  have b2 := UInt8.toNat_lt r
  have b3 := UInt8.toNat_lt s
  have hv : Enc.leVal ([p, q, r, s].take 4) = p.toNat + 256 * q.toNat + 65536 * r.toNat + 16777216 * s.toNat := by simp [Enc.leVal]; omega
  rw [hv] at htold
  rw [stepS_run hne (ix 0 p (by omega) rfl)]
  simp (disch := first | exact hne | omega) only [SX, BX, w64, stepS_run hne (ix 1 q (by omega) rfl), stepS_run hne (ix 2 r (by omega) rfl), stepS_run hne (ix 3 s (by omega) rfl)]
  simp (disch := omega) only [PX, BX, w64, ld9 (hcell _ (hU2.trans (Upd.drew w2 []))), size_mk]
  have hU3 := hU1.trans (hU2.trans (Upd.drew w2 []))
  refine ⟨fun h => ⟨by rw [htold, if_pos (by omega)]; rfl, hU3⟩, fun h => ⟨by rw [htold, if_neg (by omega)]; congr 1, hU3⟩⟩
end Go.Proofs.Ytplpjikcgheiiaa.Wal

/- Logs: the reference's Read. -/
namespace Go.Proofs.Ytplpjikcgheiiaa.Wal
open Go Go.Proofs.Ytplpjikcgheiiaa Go.Proofs.Ytplpjikcgheiiaa.Rec Xf Go.RowKit
set_option linter.unusedVariables false
set_option linter.unusedSimpArgs false
set_option maxRecDepth 100000

/-- x[lo:hi] of a string -/
theorem run_strMid {P : Program} {w : World} {t : TypeId} {l : List UInt8} {q q' : IntKind} {lo hi : Int} (ht : P.underlying t = some .string) (h0 : 0 ≤ lo) (h1 : lo ≤ hi) (h2 : hi ≤ l.length) :
    (sSlice t (.string ⟨l.toArray⟩) (some (.int q lo)) (some (.int q' hi)) none).run P w = .ok (.value (.string ⟨((l.drop lo.toNat).take (hi.toNat - lo.toNat)).toArray⟩)) w := by
  unfold sSlice Instr.sliceAt
  rw [run_sV, Sem.run_bind, run_underlying' ht]
  have hb : hi ≤ ((⟨l.toArray⟩ : ByteArray).size : Nat) := by rw [size_mk]; exact h2
  have hb2 : lo ≤ ((hi.toNat : Nat) : Int) := by omega
  simp only [Result.andThen_ok, Instr.slice, Sem.run_bind, run_underlying' ht, Instr.sliceBounds, Sem.run_pure, sliceBound_run (show 0 ≤ hi by omega) hb, sliceBound_run h0 hb2, Option.isSome_none, Bool.false_eq_true, if_false, Crc.mk_extract]
theorem OutH.snoc {L : List Re} {e : Re} {rows : List (List Value)} {vt vd : Value} {hk hk' : List (Nat × Obj)} (h : OutH L rows hk) (hs : ∀ p ∈ hk, p ∈ hk') (o1 : vt.oneCell' = true) (o2 : vd.oneCell' = true)
    (hr : ∀ w, stands w hk' → RdS w txV 3 vt e.ts ∧ RdS w diV 2 vd e.ds) : OutH (L ++ [e]) (rows ++ [reV e vt vd]) hk' := by
  refine ⟨by simp [h.1], fun i hi => ?_⟩
  have hl := h.1
  by_cases hL : i < L.length
  · obtain ⟨a, c, he, p1, p2, p4⟩ := h.2 i hL
    refine ⟨a, c, ?_, p1, p2, fun w hw => ?_⟩
    · rw [List.getElem?_append_left (by omega), he, List.getElem_append_left hL]
    · rw [List.getElem_append_left hL]; exact p4 w fun p hp => hw p (hs p hp)
  · have : i = L.length := by simp at hi; omega
    subst this
    refine ⟨vt, vd, ?_, o1, o2, fun w hw => ?_⟩
    · rw [List.getElem?_append_right (by omega)]; simp [hl]
    · simpa using hr w hw
/-- what the reference's Read tells -/
def ReadR (w : World) (G : List (Nat × Obj)) (L : List Re) (u : Value) (w' : World) : Prop :=
  ∃ rows ho hk, Upd w w' [] ∧ RowH 41 12 u L.length (rows.flatMap id) ho ∧ OutH L rows hk ∧ Owns w' (ho ++ (hk ++ G)) ∧ ∀ p ∈ ho ++ hk, w.heap.size ≤ p.1
theorem rRead_spec {w : World} {G : List (Nat × Obj)} {B : List UInt8} {cs : List Value} (hc : cs[0]? = some (.string ⟨B.toArray⟩)) (hl : cs.length = 25) (hB : B.length ≤ 65536) (hO : Owns w G) :
    CallsR Try.prog 22 #[.agg cs.toArray] w fun u w' => ReadR w G ((scanD B).1.map (·.r)) u w' := by
  apply flotillaref09_Read_sound
  unfold flotillaref09_Read_x
  refine st_box (Upd.refl w []) hO ?_
  intro g w1 hU1 hO1 hg
  have hcell : ∀ w', Upd w1 w' [] → w'.cell? ⟨g, 0, none⟩ = some (.string ⟨B.toArray⟩) := fun w' hU => cells_read ((hO1.ext hU).at_ 0 rfl) 0 _ (by show cs.toArray.toList[0]? = _; simpa using hc)
  simp (disch := omega) only [PX, BX, ld9 (hcell _ (Upd.refl w1 [])), size_mk]
  refine ⟨fun h => ?_, fun h => ?_⟩
  · have : scanD B = ([], 0) := by unfold scanD; rw [if_pos (by omega)]
    rw [this]
    exact ⟨[], [], [], hU1, RowH.nil_ _ _, ⟨rfl, fun i hi => by simp at hi⟩, hO1.sub (List.sublist_cons_self _ _), fun p hp => by cases hp⟩
  refine st_draw (fun w' => Upd w1 w' []) (Upd.drew w1 []) ?_
  have hne : ∃ w', Upd w1 w' [] := ⟨w1, Upd.refl w1 []⟩
  simp (disch := first | exact hne | omega) only [SX]
  rw [sld9 hne hcell, stepS_run hne fun w' hU => run_sLoad (run_loadVarN (cs := cs) ag56 (by rw [sz56, hl]) (fun j v hj => cells_read ((hO1.ext hU).at_ 0 rfl) j v (by show cs.toArray.toList[j]? = _; simpa using hj)))]
  refine st_call (rTold_spec hc hB (hO1.ext (Upd.drew w1 []))) ?_
  rintro _ w2 ⟨rfl, hU2⟩
  have hU2 := (Upd.drew w1 []).trans hU2
  refine st_same hU2 ?_
  have ht := toldB_le (B := B) (by omega)
  simp (disch := first | exact hne | omega) only [SX, w64]
  rw [stepS_run hne fun w' _ => run_strMid u9 (by omega) (by omega) (by omega)]
  have hsc : scanD B = scanB ((B.drop 64).take (toldB B)) := by unfold scanD; rw [if_neg (by omega)]
  rw [hsc]
  clear hsc
  rw [show (64 + ((toldB B : Nat) : Int)).toNat - Int.toNat 64 = toldB B by omega, show Int.toNat 64 = 64 from rfl]
  generalize hb : (B.drop 64).take (toldB B) = b
  have hbl : b.length = toldB B := by rw [← hb, List.length_take, List.length_drop]; omega
  have hO2 : Owns w2 G := (hO1.ext hU2).sub (List.sublist_cons_self _ _)
  have hU2' := hU1.trans hU2
  refine st_loop (fun vs w' => ∃ (k : Nat) (s : List En × Nat) (rows : List (List Value)) (ho hk : List (Nat × Obj)) (x : Value), vs.getD 4 undef = x ∧ vs.getD 5 undef = .string ⟨(b.drop s.2).toArray⟩ ∧ scanB b = scanW b k s ∧ b.length + 1 ≤ k + s.2 ∧ s.2 ≤ b.length ∧ s.1.length * 6 ≤ s.2 ∧ Upd w w' [] ∧ RowH 41 12 x s.1.length (rows.flatMap id) ho ∧ OutH (s.1.map (·.r)) rows hk ∧ Owns w' (ho ++ (hk ++ G)) ∧ ∀ p ∈ ho ++ hk, w.heap.size ≤ p.1)
    (fun vs _ => match vs.getD 5 undef with | .string a => a.size | _ => 0) ⟨b.length + 1, ([], 0), [], [], [], .slice none 0 0, rfl, rfl, rfl, by simp, by simp, by simp, hU2', RowH.nil_ _ _, ⟨rfl, fun i hi => by simp at hi⟩, by simpa using hO2, by simp⟩ ?_
  clear hU2' hO2
  rintro dv vs w4 - ⟨k, ⟨L, at_⟩, rows, ho, hk, x, e4, e5, hsw, hkk, hat, hL6, hU4, hrow, hout, hO4, hfr4⟩
  simp only at e5 hkk hat hL6 hrow hout
  simp only [e4, e5]
  refine st_call (rUnframe_spec w4 (b.drop at_) (by rw [List.length_drop]; omega)) ?_
  rintro _ w5 ⟨y, rfl, hN⟩
  simp only [PX]
  obtain ⟨yt, yd, kt, kd, rfl, y1, y2, y3, y4, y5⟩ := hN
  have hO5 : Owns w5 ((kt ++ kd) ++ (ho ++ (hk ++ G))) := Enc.owns_app hO4 y5 y4 y3
  obtain ⟨B1, m1, hyt, _⟩ := RowH.rdS y1 (stands.of (y4.sub (List.sublist_append_left _ _)))
  obtain ⟨B2, m2, hyd, _⟩ := RowH.rdS y2 (stands.of (y4.sub (List.sublist_append_right _ _)))
  subst hyt hyd
  have q1 := (Rec.RowH.one y1).1
  have q2 := (Rec.RowH.one y2).1
  refine st_alloc ze_re (hU4.trans y5) hO5 ?_
  intro g8 w6 hU6 hO6 hg8
  refine st_re (r0 := re0) (vt0 := nilS) (vd0 := nilS) hU6 hO6 0 rfl q1 q2 (.inr hg8) ?_
  intro w7 hU7 hO7
  let HH := (g8, reO (unfR (b.drop at_)).1 (.slice B1 (unfR (b.drop at_)).1.ts.length m1) (.slice B2 (unfR (b.drop at_)).1.ds.length m2)) :: ((kt ++ kd) ++ (ho ++ (hk ++ G)))
  have hO7 : Owns w7 HH := hO7
  have hU8 := hU7.trans (Upd.drew w7 [])
  have hO8 : Owns w7.drew HH := hO7.ext (Upd.drew w7 [])
  have hOe : Owns w7.drew (ho ++ (hk ++ G)) := hO8.sub (.cons _ (List.sublist_append_right _ _))
  have hne : ∃ w', stands w' HH := ⟨_, stands.of hO8⟩
  refine st_draw (fun w' => stands w' HH) (stands.of hO8) ?_
  have hend : scanB b = (L, at_) → ReadR w G ((scanB b).1.map (·.r)) x w7.drew := fun he => by
    rw [he]
    exact ⟨rows, ho, hk, hU8, by rw [List.length_map]; exact hrow, hout, hOe, hfr4⟩
  obtain ⟨k, rfl⟩ : ∃ k', k = k' + 1 := ⟨k - 1, by omega⟩
  have hstop : nextS b (L, at_) = none → scanB b = (L, at_) := fun hn => by rw [hsw]; unfold scanW; rw [hn]
  simp (disch := first | exact hne | omega) only [SX, BX]
  refine ⟨fun herr => hend (hstop (by unfold nextS; rw [if_pos (by intro h; apply herr; rw [h]; rfl)])), fun herr => ?_⟩
  have he0 : (unfR (b.drop at_)).2.2 = 0 := by
    by_cases h : (unfR (b.drop at_)).2.2 = 0
    · exact h
    · exact absurd (by omega) herr
  have hsO : ∀ w', stands w' HH → stands w' (ho ++ (hk ++ G)) := fun w' hs p hp => hs p (List.mem_cons_of_mem _ (List.mem_append_right _ hp))
  have hRd : ∀ w', stands w' HH → RdRs w' x (L.map (·.r)) := fun w' hs => hout.rd (by rw [List.length_map]; exact hrow) (fun p hp => hsO w' hs p (List.mem_append_left _ hp)) (fun p hp => hsO w' hs p (List.mem_append_right _ (List.mem_append_left _ hp)))
  obtain ⟨Ax, cx, hx, hmx, hE0⟩ := hRd _ (stands.of hO8)
  rw [List.length_map] at hx hmx
  subst hx
  simp (disch := first | exact hne | omega) only [SX, BX]
  have hfit := unfR_fits he0
  refine ⟨fun h0 => ?_, fun h0 => ?_⟩
  · obtain ⟨a, -, -, rfl, -⟩ := hE0 (L.length - 1) (by rw [List.length_map]; omega)
    have hc : ∀ w', stands w' HH → w'.cell? ((a.add ((L.length - 1) * 12)).add 1) = some (.int .u64 L[L.length - 1].r.lsn) := fun w' hs => by
      obtain ⟨A', c', he, -, h'⟩ := hRd w' hs
      obtain ⟨a', vt, vd, hA, hc', -⟩ := h' (L.length - 1) (by rw [List.length_map]; omega)
      subst hA
      injection he with he
      injection he with he
      rw [he]
      have := hc' 1 _ rfl
      simpa using this
    have hlast : lastL L = L[L.length - 1].r.lsn := by
      unfold lastL
      rw [List.getLast?_eq_getElem?, List.getElem?_eq_getElem (by omega)]
    rw [stepS_run hne fun w' hs => run_sLoad (run_loadVar1 ag34 (cells_read (hs _ (List.mem_cons_self ..)) 1 _ rfl))]
    have hwr : IntKind.i64.wrap ((L.length : Int) - 1) = ((L.length - 1 : Nat) : Int) := by rw [w64 (by omega) (by omega)]; omega
    rw [hwr]
    simp (disch := first | exact hne | omega) only [SX, BX]
    rw [sld34 hne hc]
    simp (disch := first | exact hne | omega) only [SX, BX]
    refine ⟨fun hle => hend (hstop (by unfold nextS; rw [if_neg (by simpa using he0), if_pos ⟨by show L ≠ []; intro hh; rw [hh] at h0; simp at h0, by show (unfR (b.drop at_)).1.lsn ≤ lastL L; rw [hlast]; omega⟩])), fun hgt => ?_⟩
    have hnx : nextS b (L, at_) = some (L ++ [⟨(unfR (b.drop at_)).1, (b.drop at_).take (unfR (b.drop at_)).2.1⟩], at_ + (unfR (b.drop at_)).2.1) := by
      unfold nextS
      rw [if_neg (by simpa using he0), if_neg (by rw [hlast]; rintro ⟨-, hh⟩; simp only at hh; omega)]
    clear hlast hc hgt h0
    unfold flotillaref09_Read_k1
    have hln : (b.drop at_).length = b.length - at_ := List.length_drop
    have hfit2 := hfit.2.1
    rw [hln] at hfit2
    rw [step_run (run_reN (cells_read (hO8.at_ 0 rfl)))]
    simp only [e4, e5]
    refine st_newRow (row_re (unfR (b.drop at_)).1 B1 B2 _ m1 _ m2) hU8 hO8 ?_
    intro g10 w10 hU10 hO10 hg10
    obtain ⟨inf, hi1, hz1, hsz, hby⟩ := inf41
    refine st_append (h := ho) (F := (g10, .cells (reV (unfR (b.drop at_)).1 (.slice B1 (unfR (b.drop at_)).1.ts.length m1) (.slice B2 (unfR (b.drop at_)).1.ds.length m2)).toArray 41 (0, 0)) :: (g8, reO (unfR (b.drop at_)).1 (.slice B1 (unfR (b.drop at_)).1.ts.length m1) (.slice B2 (unfR (b.drop at_)).1.ds.length m2)) :: ((kt ++ kd) ++ (hk ++ G))) (ys := reV (unfR (b.drop at_)).1 (.slice B1 (unfR (b.drop at_)).1.ts.length m1) (.slice B2 (unfR (b.drop at_)).1.ds.length m2)) (m := 1) u31 hi1 hz1 hsz hby rfl (by omega) hrow ?_ hU10 (fun p hp => .inr (hfr4 p (List.mem_append_left _ hp))) (rd_rowN (n := 1) (c := 1) (hO10.at_ 0 rfl) rfl (by omega) rfl) (reV_one _ q1 q2) (by unfold maxLen; omega) (by omega) ?_
    · refine hO10.perm ?_
      classical
      refine List.perm_iff_count.2 fun y => ?_
      simp only [HH, List.count_cons, List.count_append]
      omega
    intro v6 w11 h6 hr6 hO11 hU11 hh6
    rw [step_run (Crc.run_strFrom u9 (by omega) (by rw [hln]; omega))]
    rw [show (((unfR (b.drop at_)).2.1 : Nat) : Int).toNat = (unfR (b.drop at_)).2.1 by omega, List.drop_drop]
    refine ⟨⟨k, (L ++ [⟨(unfR (b.drop at_)).1, (b.drop at_).take (unfR (b.drop at_)).2.1⟩], at_ + (unfR (b.drop at_)).2.1), rows ++ [_], h6, (kt ++ kd) ++ hk, v6, rfl, rfl, ?_, ?_, ?_, ?_, hU11, ?_, (by rw [List.map_append]; exact OutH.snoc (hk := hk) hout (fun p hp => by grind) q1 q2 (fun w hs => ⟨RowH.rdS y1 fun p hp => hs p (by grind), RowH.rdS y2 fun p hp => hs p (by grind)⟩)), ?_, ?_⟩, ?_⟩
    · rw [hsw]; show (match nextS b (L, at_) with | none => (L, at_) | some s' => scanW b k s') = _; rw [hnx]
    · have := hfit.1; simp only; omega
    · simp only; omega
    · have := hfit.1; simp only [List.length_append, List.length_singleton]; omega
    · rw [List.flatMap_append, List.length_append]; simpa using hr6
    · refine (hO11.sub (List.Sublist.append (List.Sublist.refl _) (.cons _ (.cons _ (List.Sublist.refl _))))).perm ?_
      simp only [List.append_assoc]
      exact List.Perm.refl _
    · intro p hp
      have h1 := hU4.size
      rcases List.mem_append.1 hp with hp | hp
      · exact (hh6 p hp).resolve_left (by simp)
      · rcases List.mem_append.1 hp with hp | hp
        · exact Nat.le_trans h1 (y3 p hp)
        · exact hfr4 p (by grind)
    · have := hfit.1
      simp only [e5, List.getD_cons_succ, List.getD_cons_zero, size_mk, List.length_drop]
      omega
  · have hL0 : L = [] := List.eq_nil_of_length_eq_zero (by omega)
    have hnx : nextS b (L, at_) = some (L ++ [⟨(unfR (b.drop at_)).1, (b.drop at_).take (unfR (b.drop at_)).2.1⟩], at_ + (unfR (b.drop at_)).2.1) := by
      unfold nextS
      rw [if_neg (by simpa using he0), if_neg (by intro hh; exact hh.1 hL0)]
    clear hL0 h0
    unfold flotillaref09_Read_k1
    have hln : (b.drop at_).length = b.length - at_ := List.length_drop
    have hfit2 := hfit.2.1
    rw [hln] at hfit2
    rw [step_run (run_reN (cells_read (hO8.at_ 0 rfl)))]
    simp only [e4, e5]
    refine st_newRow (row_re (unfR (b.drop at_)).1 B1 B2 _ m1 _ m2) hU8 hO8 ?_
    intro g10 w10 hU10 hO10 hg10
    obtain ⟨inf, hi1, hz1, hsz, hby⟩ := inf41
    refine st_append (h := ho) (F := (g10, .cells (reV (unfR (b.drop at_)).1 (.slice B1 (unfR (b.drop at_)).1.ts.length m1) (.slice B2 (unfR (b.drop at_)).1.ds.length m2)).toArray 41 (0, 0)) :: (g8, reO (unfR (b.drop at_)).1 (.slice B1 (unfR (b.drop at_)).1.ts.length m1) (.slice B2 (unfR (b.drop at_)).1.ds.length m2)) :: ((kt ++ kd) ++ (hk ++ G))) (ys := reV (unfR (b.drop at_)).1 (.slice B1 (unfR (b.drop at_)).1.ts.length m1) (.slice B2 (unfR (b.drop at_)).1.ds.length m2)) (m := 1) u31 hi1 hz1 hsz hby rfl (by omega) hrow ?_ hU10 (fun p hp => .inr (hfr4 p (List.mem_append_left _ hp))) (rd_rowN (n := 1) (c := 1) (hO10.at_ 0 rfl) rfl (by omega) rfl) (reV_one _ q1 q2) (by unfold maxLen; omega) (by omega) ?_
    · refine hO10.perm ?_
      classical
      refine List.perm_iff_count.2 fun y => ?_
      simp only [HH, List.count_cons, List.count_append]
      omega
    intro v6 w11 h6 hr6 hO11 hU11 hh6
    rw [step_run (Crc.run_strFrom u9 (by omega) (by rw [hln]; omega))]
    rw [show (((unfR (b.drop at_)).2.1 : Nat) : Int).toNat = (unfR (b.drop at_)).2.1 by omega, List.drop_drop]
    refine ⟨⟨k, (L ++ [⟨(unfR (b.drop at_)).1, (b.drop at_).take (unfR (b.drop at_)).2.1⟩], at_ + (unfR (b.drop at_)).2.1), rows ++ [_], h6, (kt ++ kd) ++ hk, v6, rfl, rfl, ?_, ?_, ?_, ?_, hU11, ?_, (by rw [List.map_append]; exact OutH.snoc (hk := hk) hout (fun p hp => by grind) q1 q2 (fun w hs => ⟨RowH.rdS y1 fun p hp => hs p (by grind), RowH.rdS y2 fun p hp => hs p (by grind)⟩)), ?_, ?_⟩, ?_⟩
    · rw [hsw]; show (match nextS b (L, at_) with | none => (L, at_) | some s' => scanW b k s') = _; rw [hnx]
    · have := hfit.1; simp only; omega
    · simp only; omega
    · have := hfit.1; simp only [List.length_append, List.length_singleton]; omega
    · rw [List.flatMap_append, List.length_append]; simpa using hr6
    · refine (hO11.sub (List.Sublist.append (List.Sublist.refl _) (.cons _ (.cons _ (List.Sublist.refl _))))).perm ?_
      simp only [List.append_assoc]
      exact List.Perm.refl _
    · intro p hp
      have h1 := hU4.size
      rcases List.mem_append.1 hp with hp | hp
      · exact (hh6 p hp).resolve_left (by simp)
      · rcases List.mem_append.1 hp with hp | hp
        · exact Nat.le_trans h1 (y3 p hp)
        · exact hfr4 p (by grind)
    · have := hfit.1
      simp only [e5, List.getD_cons_succ, List.getD_cons_zero, size_mk, List.length_drop]
      omega
end Go.Proofs.Ytplpjikcgheiiaa.Wal

/- Logs: the same records. -/
namespace Go.Proofs.Ytplpjikcgheiiaa.Wal
open Go Go.Proofs.Ytplpjikcgheiiaa Go.Proofs.Ytplpjikcgheiiaa.Rec Xf Go.RowKit
set_option linter.unusedVariables false
set_option linter.unusedSimpArgs false
set_option maxRecDepth 100000

theorem SameRecords_spec (W : World) (va vb : Value) (L M : List Re) (ha : RdRs W va L) (hb : RdRs W vb M) :
    CallsR Try.prog 17 #[va, vb] W fun u w' => u = .bool (decide (L = M)) ∧ Upd W w' [] := by
  obtain ⟨A1, c1, rfl, hm1, h1⟩ := ha
  obtain ⟨A2, c2, rfl, hm2, h2⟩ := hb
  unfold maxLen at hm1 hm2
  apply flotillaref09_SameRecords_sound
  unfold flotillaref09_SameRecords_x
  simp (disch := omega) only [PX, BX]
  refine ⟨fun hne => ⟨?_, Upd.refl W []⟩, fun heq => ?_⟩
  · congr 1; rw [eq_comm, decide_eq_false_iff_not]; rintro rfl; exact hne rfl
  have hl : L.length = M.length := by omega
  refine st_loop (fun vs w' => ∃ i : Nat, i ≤ L.length ∧ vs.getD 1 undef = .int .i64 i ∧ L.take i = M.take i ∧ Upd W w' []) (fun vs _ => L.length - (intOf (vs.getD 1 undef)).toNat)
    ⟨0, by omega, rfl, rfl, Upd.refl W []⟩ ?_
  rintro dv vs w1 - ⟨i, hi, e1, htk, hU1⟩
  simp (disch := omega) only [e1, PX, BX]
  refine ⟨fun hlt => ?_, fun hge => ?_⟩
  · have hi1 : i < L.length := by omega
    have hi2 : i < M.length := by omega
    obtain ⟨a, vt, vd, rfl, hc, o1, o2, rt, rd⟩ := h1 i hi1
    obtain ⟨b, ut, ud, rfl, hd, p1, p2, st, sd⟩ := h2 i hi2
    have hU2 := hU1.trans (Upd.drew w1 [])
    let S : World → Prop := fun w' => (∀ j u, (reV L[i] vt vd)[j]? = some u → w'.cell? ((a.add (i * 12)).add j) = some u) ∧ ∀ j u, (reV M[i] ut ud)[j]? = some u → w'.cell? ((b.add (i * 12)).add j) = some u
    have hS : S w1.drew := ⟨fun j u hu => by
      have := hc j u hu
      rw [hU2.cell (World.block_lt_of_cell? W _ this) (by simp)]; exact this, fun j u hu => by
      have := hd j u hu
      rw [hU2.cell (World.block_lt_of_cell? W _ this) (by simp)]; exact this⟩
    have hne : ∃ w', S w' := ⟨_, hS⟩
    refine st_draw S hS ?_
    simp (disch := first | exact hne | omega) only [SX, BX]
    rw [stepS_run hne fun w' hs => run_reN hs.1]
    rw [stepS_run hne fun w' hs => run_reN hs.2]
    refine st_call (rSame_spec _ _ _ L[i] M[i] ⟨vt, vd, rfl, rt.mono hU2, rd.mono hU2⟩ ⟨ut, ud, rfl, st.mono hU2, sd.mono hU2⟩) ?_
    rintro _ w3 ⟨rfl, hU3⟩
    refine st_keepT (fun _ => True) trivial ?_
    have hU4 := hU2.trans hU3
    have hT : ∃ w' : World, (fun _ => True) w' := ⟨w3, trivial⟩
    rw [stepS_run hT fun w' _ => r_not]
    by_cases hs : L[i] = M[i]
    · rw [decide_eq_true hs]
      simp (disch := omega) only [Bool.not_true, PX, BX, w64, e1]
      refine ⟨⟨i + 1, by omega, rfl, ?_, hU4⟩, ?_⟩
      · rw [List.take_succ_eq_append_getElem hi1, List.take_succ_eq_append_getElem hi2, htk, hs]
      · simp only [List.getD_cons_succ, List.getD_cons_zero, intOf]; omega
    · rw [decide_eq_false hs]
      simp (disch := omega) only [Bool.not_false, PX, BX]
      refine ⟨?_, hU4⟩
      congr 1; rw [eq_comm, decide_eq_false_iff_not]; rintro rfl; exact hs rfl
  · obtain rfl : i = L.length := by omega
    unfold flotillaref09_SameRecords_k1
    refine ⟨?_, hU1⟩
    rw [List.take_length] at htk
    rw [hl, List.take_length] at htk
    rw [decide_eq_true htk]
end Go.Proofs.Ytplpjikcgheiiaa.Wal

/- Logs: how one lies in memory; what is asked of it. -/
namespace Go.Proofs.Ytplpjikcgheiiaa.Wal
open Go Go.Proofs.Ytplpjikcgheiiaa Go.Proofs.Ytplpjikcgheiiaa.Rec Xf Go.RowKit
set_option linter.unusedVariables false
set_option linter.unusedSimpArgs false
set_option maxRecDepth 100000

/-- a log -/
structure Lg where
  hand : Int
  L : List En
  size : Nat
  st : Nat
  fl : Nat
  mkd : Nat
  tw : Bool
  kp : Nat
def logO (dv : Value) (s : Lg) (x : Value) : Obj := .cells #[dv, .int .i64 s.hand, x, .int .i64 (s.size : Nat), .int .i64 (s.st : Nat), .int .i64 (s.fl : Nat), .int .i64 (s.mkd : Nat), .bool s.tw, .int .i64 (s.kp : Nat)] 91 (0, 0)
def LogH (dv : Value) (s : Lg) (v : Value) (h : List (Nat × Obj)) : Prop :=
  ∃ g x rows ho hk, v = .pointer (some ⟨g, 0, none⟩) ∧ h = (g, logO dv s x) :: (ho ++ hk) ∧ RowH 95 13 x s.L.length (rows.flatMap id) ho ∧ OutE s.L rows hk
/-- the frames of entries -/
def flatB (L : List En) : List UInt8 := L.flatMap (·.b)
theorem flatB_snoc (L : List En) (x : En) : flatB (L ++ [x]) = flatB L ++ x.b := by simp [flatB]
/-- what holds of each log on a device of n bytes -/
structure LgFit (n : Nat) (s : Lg) : Prop where
  most : n ≤ 65536
  room : 64 + s.size + s.kp ≤ n
  six : s.L.length * 6 ≤ s.size
  st : s.st ≤ s.L.length
  fl : s.fl ≤ s.L.length
  mkd : s.mkd ≤ s.size
  ok : ∀ x ∈ s.L, okP x.r
  flat : (flatB s.L).length = s.size
  hand : hands s.hand
theorem LogH.look {dv v : Value} {s : Lg} {h G : List (Nat × Obj)} (hl : LogH dv s v h) (hG : ∀ p ∈ h, p ∈ G) : ∃ g x, v = .pointer (some ⟨g, 0, none⟩) ∧ (g, logO dv s x) ∈ G ∧ ∀ w, stands w G → RdE w x s.L := by
  obtain ⟨g, x, rows, ho, hk, rfl, rfl, hr, ht⟩ := hl
  exact ⟨g, x, rfl, hG _ (.head _), fun w hs => ht.rd hr (fun p hp => hs p (hG p (.tail _ (List.mem_append_left _ hp)))) (fun p hp => hs p (hG p (.tail _ (List.mem_append_right _ hp))))⟩
theorem log_cells {w : World} {g : Nat} {dv x : Value} {s : Lg} (h : w.heap[g]? = some (logO dv s x)) : w.cell? ⟨g, 0, none⟩ = some dv ∧ w.cell? ⟨g, 1, none⟩ = some (.int .i64 s.hand) ∧ w.cell? ⟨g, 2, none⟩ = some x ∧ w.cell? ⟨g, 3, none⟩ = some (.int .i64 (s.size : Nat)) ∧
    w.cell? ⟨g, 4, none⟩ = some (.int .i64 (s.st : Nat)) ∧ w.cell? ⟨g, 5, none⟩ = some (.int .i64 (s.fl : Nat)) ∧ w.cell? ⟨g, 6, none⟩ = some (.int .i64 (s.mkd : Nat)) ∧ w.cell? ⟨g, 7, none⟩ = some (.bool s.tw) ∧ w.cell? ⟨g, 8, none⟩ = some (.int .i64 (s.kp : Nat)) :=
  ⟨(cell_at h).trans rfl, (cell_at h).trans rfl, (cell_at h).trans rfl, (cell_at h).trans rfl, (cell_at h).trans rfl, (cell_at h).trans rfl, (cell_at h).trans rfl, (cell_at h).trans rfl, (cell_at h).trans rfl⟩
/-- the LSN of the n-th -/
def lsnAt (L : List Re) (n : Nat) : Nat := if n = 0 then 0 else match L[n - 1]? with | some x => x.lsn | none => 0
theorem lsnAt_pos {L : List Re} {n : Nat} (h0 : n ≠ 0) (h : n - 1 < L.length) : lsnAt L n = L[n - 1].lsn := by
  unfold lsnAt; rw [if_neg h0, List.getElem?_eq_getElem h]
theorem lastL_eq (L : List En) : lastL L = lsnAt (L.map (·.r)) L.length := by
  unfold lastL lsnAt
  rw [List.getLast?_eq_getElem?]
  by_cases h : L.length = 0
  · rw [if_pos h, List.eq_nil_of_length_eq_zero h]; rfl
  · rw [if_neg h, List.getElem?_map, List.getElem?_eq_getElem (by omega)]; rfl

section
variable {w W : World} {ks : List Nat} {d : Dv} {dv v : Value} {s : Lg} {h G : List (Nat × Obj)}
theorem at_spec (hl : LogH dv s v h) (hG : ∀ p ∈ h, p ∈ G) (hO : Owns w G) (n : Nat) (hn : n ≤ s.L.length) :
    CallsR Try.prog 54 #[v, .int .i64 n] w fun r w' => r = .int .u64 (lsnAt (s.L.map (·.r)) n : Nat) ∧ w' = w := by
  obtain ⟨g, x, rfl, hm, hE⟩ := hl.look hG
  obtain ⟨c0, c1, c2, c3, c4, c5, c6, c7, c8⟩ := log_cells (hO.2 _ hm)
  obtain ⟨A, c, rfl, hmx, hE0⟩ := hE w (stands.of hO)
  unfold maxLen at hmx
  apply wal_Log_at_sound
  unfold wal_Log_at_x
  simp (disch := first | assumption | omega) only [PX, BX]
  refine ⟨fun h0 => ⟨by unfold lsnAt; rw [if_pos (by omega)]; rfl, trivial⟩, fun h0 => ?_⟩
  have hwr : IntKind.i64.wrap ((n : Int) - 1) = ((n - 1 : Nat) : Int) := by rw [w64 (by omega) (by omega)]; omega
  simp (disch := first | assumption | omega) only [PX, LX, add_mk, Nat.reduceAdd, hwr]
  obtain ⟨a, vt, vd, vb, rfl, hc, -⟩ := hE0 (n - 1) (by omega)
  have hc1 := hc 1 _ rfl
  simp (disch := first | assumption | omega) only [PX]
  rw [step_run (run_sLoad (run_loadVar1 ag34 hc1))]
  exact ⟨by rw [lsnAt_pos (by omega) (by rw [List.length_map]; omega), List.getElem_map], rfl⟩
theorem Stable_spec (hl : LogH dv s v h) (hG : ∀ p ∈ h, p ∈ G) (hO : Owns w G) (hst : s.st ≤ s.L.length) :
    CallsR Try.prog 25 #[v] w fun r w' => r = .int .u64 (lsnAt (s.L.map (·.r)) s.st : Nat) ∧ w' = w := by
  obtain ⟨g, x, rfl, hm, hE⟩ := hl.look hG
  obtain ⟨c0, c1, c2, c3, c4, c5, c6, c7, c8⟩ := log_cells (hO.2 _ hm)
  apply wal_Log_Stable_sound
  unfold wal_Log_Stable_x
  simp (disch := first | assumption | omega) only [PX, BX, LX, add_mk, Nat.reduceAdd]
  exact st_call (at_spec hl hG hO s.st hst) fun _ _ h => h
theorem Last_spec (hl : LogH dv s v h) (hG : ∀ p ∈ h, p ∈ G) (hO : Owns w G) :
    CallsR Try.prog 32 #[v] w fun r w' => r = .int .u64 (lastL s.L : Nat) ∧ w' = w := by
  obtain ⟨g, x, rfl, hm, hE⟩ := hl.look hG
  obtain ⟨c0, c1, c2, c3, c4, c5, c6, c7, c8⟩ := log_cells (hO.2 _ hm)
  obtain ⟨A, c, rfl, hmx, hE0⟩ := hE w (stands.of hO)
  apply wal_Log_Last_sound
  unfold wal_Log_Last_x
  simp (disch := first | assumption | omega) only [PX, BX, LX, add_mk, Nat.reduceAdd]
  rw [lastL_eq]
  exact st_call (at_spec hl hG hO s.L.length (Nat.le_refl _)) fun _ _ h => h
theorem Records_spec (hl : LogH dv s v h) (hG : ∀ p ∈ h, p ∈ G) (hO : Owns w G) (hok : ∀ x ∈ s.L, okP x.r) (hlen : s.L.length ≤ 100000) :
    CallsR Try.prog 16 #[v] w fun u w' => Upd w w' [] ∧ RdRs w' u (s.L.map (·.r)) := by
  obtain ⟨g, x, rfl, hm, hE⟩ := hl.look hG
  obtain ⟨c0, c1, c2, c3, c4, c5, c6, c7, c8⟩ := log_cells (hO.2 _ hm)
  apply wal_Log_Records_sound
  unfold wal_Log_Records_x
  simp (disch := first | assumption | omega) only [PX, BX, LX, add_mk, Nat.reduceAdd]
  exact st_call (records_spec w x s.L (fun y hy => small_of (hok y hy)) hlen (hE w (stands.of hO))) fun _ _ h => h
theorem Kept_spec (hl : LogH dv s v h) (hG : ∀ p ∈ h, p ∈ G) (hO : Owns w G) :
    CallsR Try.prog 31 #[v] w fun r w' => r = .int .i64 (s.kp : Nat) ∧ w' = w := by
  obtain ⟨g, x, rfl, hm, hE⟩ := hl.look hG
  obtain ⟨c0, c1, c2, c3, c4, c5, c6, c7, c8⟩ := log_cells (hO.2 _ hm)
  apply wal_Log_Kept_sound
  unfold wal_Log_Kept_x
  simp (disch := first | assumption | omega) only [PX, BX, LX, add_mk, Nat.reduceAdd]
  trivial
theorem Flying_log_spec (hl : LogH dv s v h) (hG : ∀ p ∈ h, p ∈ G) (hO : Owns w G) :
    CallsR Try.prog 35 #[v] w fun r w' => r = .bool (decide (0 < s.fl)) ∧ w' = w := by
  obtain ⟨g, x, rfl, hm, hE⟩ := hl.look hG
  obtain ⟨c0, c1, c2, c3, c4, c5, c6, c7, c8⟩ := log_cells (hO.2 _ hm)
  apply wal_Log_Flying_sound
  unfold wal_Log_Flying_x
  simp (disch := first | assumption | omega) only [PX, BX, LX, add_mk, Nat.reduceAdd]
  exact ⟨by congr 1; rw [decide_eq_decide]; omega, trivial⟩
def roomL (n : Nat) (s : Lg) : Int := (n : Int) - 64 - s.size - s.kp
theorem Room_spec (hl : LogH dv s v h) (hG : ∀ p ∈ h, p ∈ G) (hO : Owns w G) {hd : List (Nat × Obj)} (hd' : DevH d dv hd) (hG2 : ∀ p ∈ hd, p ∈ G) (fit : LgFit d.B.length s) :
    CallsR Try.prog 30 #[v] w fun r w' => r = .int .i64 (roomL d.B.length s) ∧ Upd w w' [] ∧ Owns w' G := by
  obtain ⟨g, x, rfl, hm, hE⟩ := hl.look hG
  have c0 : ∀ w', stands w' G → w'.cell? ⟨g, 0, none⟩ = some dv := fun w' hs => (log_cells (hs _ hm)).1
  have c3 : ∀ w', stands w' G → w'.cell? ⟨g, 3, none⟩ = some (.int .i64 (s.size : Nat)) := fun w' hs => (log_cells (hs _ hm)).2.2.2.1
  have c8 : ∀ w', stands w' G → w'.cell? ⟨g, 8, none⟩ = some (.int .i64 (s.kp : Nat)) := fun w' hs => (log_cells (hs _ hm)).2.2.2.2.2.2.2.2
  have hmost := fit.most
  have hroom := fit.room
  apply wal_Log_Room_sound
  unfold wal_Log_Room_x
  have hO1 := hO.ext (Upd.drew w [])
  have hne : ∃ w', stands w' G := ⟨_, stands.of hO⟩
  simp (disch := first | assumption | omega) only [PX, BX]
  refine st_draw (fun w' => stands w' G) (stands.of hO1) ?_
  simp (disch := first | assumption | omega) only [SX, SLX, BX, add_mk, Nat.reduceAdd]
  refine st_call (Size_spec hd' hG2 hO1) ?_
  rintro _ _ ⟨rfl, rfl⟩
  refine st_same (stands.of hO1) ?_
  simp (disch := first | assumption | omega) only [SX, SLX, BX, w64]
  exact ⟨rfl, Upd.drew w [], hO1⟩
end
end Go.Proofs.Ytplpjikcgheiiaa.Wal

/- Logs: Open. -/
namespace Go.Proofs.Ytplpjikcgheiiaa.Wal
open Go Go.Proofs.Ytplpjikcgheiiaa Go.Proofs.Ytplpjikcgheiiaa.Rec Xf Go.RowKit
set_option linter.unusedVariables false
set_option linter.unusedSimpArgs false
set_option maxRecDepth 100000

noncomputable def openS (d : Dv) (hand : Int) : Lg := ⟨hand, (scanD d.B).1, (scanD d.B).2, (scanD d.B).1.length, 0, 0, false, 0⟩
def openE (d : Dv) (hand : Int) : Int := if d.B.length < 64 ∨ ¬ hands hand then 1 else if d.up.getD hand.toNat none = none then 0 else 10
theorem scanD_room {B : List UInt8} (h : 64 ≤ B.length) : 64 + (scanD B).2 ≤ B.length := by
  unfold scanD
  rw [if_neg (by omega)]
  have := (scanB_inv ((B.drop 64).take (toldB B))).2.1
  have h2 := toldB_le h
  rw [List.length_take, List.length_drop] at this
  omega
theorem scanW_flat {b : List UInt8} : ∀ (k : Nat) {s : List En × Nat}, flatB s.1 = b.take s.2 ∧ s.2 ≤ b.length → flatB (scanW b k s).1 = b.take (scanW b k s).2 ∧ (scanW b k s).2 ≤ b.length
  | 0, s, h => h
  | k + 1, s, h => by
    have hn : ∀ s', nextS b s = some s' → flatB s'.1 = b.take s'.2 ∧ s'.2 ≤ b.length := fun s' hs => by
      unfold nextS at hs
      split at hs
      · cases hs
      rename_i h1
      split at hs
      · cases hs
      have hf := (unfR_fits (Decidable.not_not.1 h1)).2.1
      rw [List.length_drop] at hf
      injection hs with hs
      subst hs
      refine ⟨?_, by have := h.2; simp only; omega⟩
      rw [flatB_snoc, h.1]
      simp only
      rw [← List.take_add]
    show flatB (match nextS b s with | none => s | some s' => scanW b k s').1 = b.take (match nextS b s with | none => s | some s' => scanW b k s').2 ∧ (match nextS b s with | none => s | some s' => scanW b k s').2 ≤ b.length
    cases hs : nextS b s with
    | none => exact h
    | some s' => exact scanW_flat k (hn s' hs)
theorem scanB_flat (b : List UInt8) : flatB (scanB b).1 = b.take (scanB b).2 ∧ (scanB b).2 ≤ b.length := scanW_flat _ ⟨by simp [flatB], Nat.zero_le _⟩
theorem scanD_flat (B : List UInt8) : (flatB (scanD B).1).length = (scanD B).2 := by
  unfold scanD
  split
  · rfl
  · have := scanB_flat ((B.drop 64).take (toldB B))
    rw [this.1, List.length_take]; omega
theorem openS_fit {d : Dv} {hand : Int} (ok : DvOk d) (h : openE d hand = 0) : LgFit d.B.length (openS d hand) := by
  unfold openE at h
  split at h
  · cases h
  rename_i h1
  have hk := scanD_ok d.B
  have := scanD_room (B := d.B) (by omega)
  exact ⟨ok.most, by simpa [openS] using this, hk.2.2, Nat.le_refl _, Nat.zero_le _, Nat.zero_le _, hk.1, scanD_flat d.B, by simp only [openS]; exact Decidable.not_not.1 fun h => h1 (.inr h)⟩
theorem build_log (g : Addr) (A : Option Addr) (hand a b : Int) (n c : Nat) (w : World) : (sBuild 91 [(0, .pointer (some g)), (1, .int .i64 hand), (2, .slice A n c), (3, .int .i64 a), (4, .int .i64 b)]).run Try.prog w =
    .ok (.value (.agg #[.pointer (some g), .int .i64 hand, .slice A n c, .int .i64 a, .int .i64 b, .int .i64 0, .int .i64 0, .bool false, .int .i64 0])) w := by kernel_rfl
theorem RowH.isSl {e : TypeId} {sz : Nat} {v : Value} {n : Nat} {xs : List Value} {h : List (Nat × Obj)} (hr : RowH e sz v n xs h) : ∃ A c, v = .slice A n c := by
  rcases hr.2 with ⟨h1, h2, _⟩ | ⟨g, cap, cs, h1, _, h3, _⟩
  · exact ⟨none, 0, by rw [h1, h2]⟩
  · exact ⟨_, cap, h1⟩
theorem Open_log_spec {w W : World} {ks : List Nat} {d : Dv} {v : Value} {h G : List (Nat × Obj)} (ok : DvOk d) (hd : DevH d v h) (hG : ∀ p ∈ h, p ∈ G) (hO : Owns w G) (hU : Upd W w ks) (hand : Int) :
    CallsR Try.prog 10 #[v, .int .i64 hand] w fun r w' => Upd W w' ks ∧ ((openE d hand ≠ 0 ∧ r = .tuple #[.pointer none, .int .i64 (openE d hand)] ∧ Owns w' G) ∨
      (openE d hand = 0 ∧ ∃ g h', r = .tuple #[.pointer (some g), .int .i64 0] ∧ LogH v (openS d hand) (.pointer (some g)) h' ∧ Owns w' (h' ++ G) ∧ ∀ p ∈ h', W.heap.size ≤ p.1)) := by
  have hmost := ok.most
  apply wal_Open_sound
  unfold wal_Open_x
  refine st_call (Size_spec hd hG hO) ?_
  rintro _ w1 ⟨rfl, rfl⟩
  simp only [PX, BX, wal_Open_k1]
  have e1 : d.B.length < 64 ∨ ¬ hands hand → openE d hand = 1 := fun h => by unfold openE; rw [if_pos h]
  refine ⟨fun hlt => ⟨hU, .inl ⟨by rw [e1 (.inl (by omega))]; decide, by rw [e1 (.inl (by omega))], hO⟩⟩, fun hge => ⟨fun h0 => ⟨hU, .inl ?_⟩, fun h0 => ⟨fun h8 => ⟨hU, .inl ?_⟩, fun h8 => ?_⟩⟩⟩
  · have := e1 (.inr (by unfold hands; omega))
    exact ⟨by rw [this]; decide, by rw [this], hO⟩
  · have := e1 (.inr (by unfold hands; omega))
    exact ⟨by rw [this]; decide, by rw [this], hO⟩
  have hh : hands hand := ⟨by omega, by omega⟩
  refine st_call (Flying_spec ok hd hG hO hU hand) ?_
  rintro _ w2 ⟨rfl, hU2, hO2⟩
  have e2 : openE d hand = if d.up.getD hand.toNat none = none then 0 else 10 := by unfold openE; rw [if_neg fun h => h.elim (fun h => by omega) fun h => h hh]
  cases hup : d.up.getD hand.toNat none with
  | some x =>
    obtain ⟨a, b⟩ := x
    have hf : flyD d hand = ((a : Int), (b.length : Int), true) := by unfold flyD; rw [if_pos hh, hup]
    rw [hup, if_neg (by simp)] at e2
    simp only [hf, flyV, PX, BX]
    exact ⟨hU2, .inl ⟨by rw [e2]; decide, by rw [e2], hO2⟩⟩
  | none =>
    have hf : flyD d hand = (0, 0, false) := by unfold flyD; rw [if_pos hh, hup]
    rw [hup, if_pos rfl] at e2
    simp only [hf, flyV, PX, BX]
    refine st_call (scan_spec hd hmost hG hO2) ?_
    rintro _ w3 ⟨x, rows, ho, hk, rfl, hU3, hrow, hout, hO3, hfr⟩
    obtain ⟨A, c, rfl⟩ := RowH.isSl hrow
    obtain ⟨g, vb, vs, hb, hu, rfl, hrest⟩ := id hd
    simp only [PX]
    rw [step_run (build_log _ _ _ _ _ _ _ _)]
    have hU4 := hU2.then_ hU3 fun x hx => by cases hx
    refine st_box hU4 hO3 ?_
    intro g4 w4 hU5 hO5 hg4
    refine ⟨hU5, .inr ⟨e2, ⟨g4, 0, none⟩, (g4, logO (.pointer (some ⟨g, 0, none⟩)) (openS d hand) (.slice A (scanD d.B).1.length c)) :: (ho ++ hk), rfl, ⟨g4, _, rows, ho, hk, rfl, rfl, hrow, hout⟩, ?_, ?_⟩⟩
    · rw [List.cons_append, List.append_assoc]; exact hO5
    · intro p hp
      rcases List.mem_cons.1 hp with rfl | hp
      · exact hg4
      · exact Nat.le_trans hU2.size (hfr p hp)
theorem Open_log_nil (w : World) (hand : Int) : CallsR Try.prog 10 #[.pointer none, .int .i64 hand] w fun r w' => r = .tuple #[.pointer none, .int .i64 1] ∧ w' = w := by
  apply wal_Open_sound
  unfold wal_Open_x
  refine st_call (Size_nil w) ?_
  rintro _ w1 ⟨rfl, rfl⟩
  simp only [PX, BX, wal_Open_k1]
  exact ⟨fun _ => ⟨trivial, trivial⟩, fun h => absurd (by decide) h⟩
end Go.Proofs.Ytplpjikcgheiiaa.Wal

/- Logs: join, Append, Keep, Spend, Drop. -/
namespace Go.Proofs.Ytplpjikcgheiiaa.Wal
open Go Go.Proofs.Ytplpjikcgheiiaa Go.Proofs.Ytplpjikcgheiiaa.Rec Xf Go.RowKit
set_option linter.unusedVariables false
set_option linter.unusedSimpArgs false
set_option maxRecDepth 100000

noncomputable def joinL (s : Lg) (r : Re) (room : Int) : Lg × Int :=
  if ¬ okP r ∨ r.lsn ≤ lastL s.L then (s, 1) else if room < (frB r).length then (s, 7) else ({ s with L := s.L ++ [⟨r, frB r⟩], size := s.size + (frB r).length }, 0)
variable {w W : World} {ks : List Nat} {d : Dv} {dv v : Value} {s : Lg} {h F : List (Nat × Obj)}
theorem join_spec (hl : LogH dv s v h) (hO : Owns w (h ++ F)) (hU : Upd W w ks) (hh : ∀ p ∈ h, p.1 ∈ ks ∨ W.heap.size ≤ p.1) (hsz : s.size ≤ 65536) (hlen : s.L.length ≤ 65536) {vr : Value} {r : Re} (hr : RdRe w vr r) (room : Int) (hroom : room ≤ 65536) :
    CallsR Try.prog 41 #[v, vr, .int .i64 room] w fun u w' => u = .int .i64 (joinL s r room).2 ∧ Upd W w' ks ∧ ∃ h', LogH dv (joinL s r room).1 v h' ∧ Owns w' (h' ++ F) ∧ ∀ p ∈ h', p.1 ∈ ks ∨ W.heap.size ≤ p.1 := by
  have hl0 := hl
  obtain ⟨g, x, rows, ho, hk, rfl, rfl, hrow, hout⟩ := hl
  obtain ⟨vt, vd, rfl, ht, hd⟩ := hr
  apply wal_Log_join_sound
  unfold wal_Log_join_x
  refine st_box (Upd.refl w []) hO ?_
  intro g1 w1 hU1 hO1 hg1
  have hO1 : Owns w1 ((g1, reO r vt vd) :: ((g, logO dv s x) :: (ho ++ hk) ++ F)) := hO1
  simp (disch := first | assumption | omega) only [PX, BX]
  rw [step_run (run_re (hO1.at_ 0 rfl))]
  refine st_call (Frame_spec w1 _ r ⟨vt, vd, rfl, ht.mono hU1, hd.mono hU1⟩) ?_
  rintro _ w2 ⟨b, rfl, hN⟩
  obtain ⟨hb, b1, b2, b3, b4⟩ := hN
  have hO2 : Owns w2 (hb ++ ((g1, reO r vt vd) :: ((g, logO dv s x) :: (ho ++ hk) ++ F))) := Enc.owns_app hO1 b3 b2 b4
  have hU2 := hU1.trans b3
  simp only [PX]
  have hO3 := hO2.ext (Upd.drew w2 [])
  have hU3 := hU2.trans (Upd.drew w2 [])
  let SS : World → Prop := fun w' => stands w' [(g1, reO r vt vd), (g, logO dv s x)]
  have sS : ∀ {w' : World} {H : List (Nat × Obj)}, Owns w' H → (g1, reO r vt vd) ∈ H → (g, logO dv s x) ∈ H → SS w' := fun hO h1 h2 p hp => by
    rcases List.mem_cons.1 hp with rfl | hp
    · exact hO.2 _ h1
    · rw [List.mem_singleton] at hp; subst hp; exact hO.2 _ h2
  have hS3 : SS w2.drew := sS hO3 (by simp) (by simp)
  have hne : ∃ w', SS w' := ⟨_, hS3⟩
  refine st_draw SS hS3 ?_
  have hfin : ∀ {w' : World} (e : Int), joinL s r room = (s, e) → Upd w w' [] → Owns w' ((g, logO dv s x) :: (ho ++ hk) ++ F) → Value.int .i64 e = .int .i64 (joinL s r room).2 ∧ Upd W w' ks ∧ ∃ h', LogH dv (joinL s r room).1 (.pointer (some ⟨g, 0, none⟩)) h' ∧ Owns w' (h' ++ F) ∧ ∀ p ∈ h', p.1 ∈ ks ∨ W.heap.size ≤ p.1 := fun e he hu ho' => by
    rw [he]
    exact ⟨rfl, hU.then_ hu (fun x hx => by cases hx), _, hl0, ho', hh⟩
  have hlog : ∀ {w' : World}, Owns w' (hb ++ ((g1, reO r vt vd) :: ((g, logO dv s x) :: (ho ++ hk) ++ F))) → Owns w' ((g, logO dv s x) :: (ho ++ hk) ++ F) := fun h => h.sub ((List.sublist_cons_self _ _).trans (List.sublist_append_right _ _))
  simp (disch := first | exact hne | omega) only [SX, BX]
  by_cases hnok : ¬ okP r
  · have e1 : okN (okP r) = 1 := by unfold okN; rw [if_neg hnok]
    rw [e1]
    refine ⟨fun _ => hfin 1 (by unfold joinL; rw [if_pos (.inl hnok)]) hU3 (hlog hO3), fun h => absurd (by decide) h⟩
  have hok : okP r := Decidable.not_not.1 hnok
  have e1 : okN (okP r) = 0 := by unfold okN; rw [if_pos hok]
  rw [e1]
  rw [if_pos hok] at b1
  refine ⟨fun h => absurd rfl h, fun _ => ?_⟩
  have hc : ∀ w', SS w' → w'.cell? ⟨g1, 1, none⟩ = some (.int .u64 (r.lsn : Nat)) := fun w' hs => (cell_at (hs _ (List.mem_cons_self ..))).trans rfl
  simp (disch := first | exact hne | omega) only [SX, add_mk, Nat.reduceAdd]
  rw [sld34 hne hc]
  have hmem : ∀ p ∈ (g, logO dv s x) :: (ho ++ hk), p ∈ hb ++ ((g1, reO r vt vd) :: ((g, logO dv s x) :: (ho ++ hk) ++ F)) := fun p hp => List.mem_append_right _ (List.mem_cons_of_mem _ (List.mem_append_left _ hp))
  refine st_call (Last_spec hl0 hmem hO3) ?_
  rintro _ w3 ⟨rfl, rfl⟩
  refine st_same hS3 ?_
  simp (disch := first | exact hne | omega) only [SX, BX]
  refine ⟨fun hle => hfin 1 (by unfold joinL; rw [if_pos (.inr (by omega))]) hU3 (hlog hO3), fun hgt => ?_⟩
  obtain ⟨Ab, cb, rfl⟩ := RowH.isSl b1
  simp only [PX, BX]
  refine ⟨fun hfull => hfin 7 (by unfold joinL; rw [if_neg (by rintro (h | h); exact h hok; omega), if_pos (by omega)]) hU3 (hlog hO3), fun hfit => ?_⟩
  have hj : joinL s r room = ({ s with L := s.L ++ [⟨r, frB r⟩], size := s.size + (frB r).length }, 0) := by
    unfold joinL
    rw [if_neg (by rintro (h | h); exact h hok; omega), if_neg (by omega)]
  rw [hj]
  clear hfin
  have hO4 := hO3.ext (Upd.drew w2.drew [])
  have hU4 := hU3.trans (Upd.drew w2.drew [])
  have hS4 : SS w2.drew.drew := sS hO4 (by simp) (by simp)
  refine st_draw SS hS4 ?_
  have c2 : ∀ w', SS w' → w'.cell? ⟨g, 2, none⟩ = some x := fun w' hs => (log_cells (hs _ (List.mem_cons_of_mem _ (List.mem_cons_self ..)))).2.2.1
  simp (disch := first | exact hne | assumption | omega) only [SX, SLX, add_mk, Nat.reduceAdd]
  rw [stepS_run hne fun w' hs => run_re (hs _ (List.mem_cons_self ..))]
  refine st_call (copied_spec w2.drew.drew _ r (small_of hok) ⟨vt, vd, rfl, ht.mono hU4, hd.mono hU4⟩) ?_
  rintro _ w5 ⟨yt, yd, kt, kd, rfl, y1, y2, y3, y4, y5⟩
  have hO5 := Enc.owns_app hO4 y5 y4 y3
  have hU5 := hU4.trans y5
  obtain ⟨B1, m1, rfl⟩ := RowH.isSl y1
  obtain ⟨B2, m2, rfl⟩ := RowH.isSl y2
  refine st_same (sS hO5 (by simp) (by simp)) ?_
  rw [step_run (build_en ⟨r, frB r⟩ B1 B2 Ab _ m1 _ m2 _ cb _)]
  refine st_same (sS hO5 (by simp) (by simp)) ?_
  refine st_newRow (row_en ⟨r, frB r⟩ B1 B2 Ab _ m1 _ m2 _ cb) hU5 hO5 ?_
  intro g6 w6 hU6 hO6 hg6
  refine st_same (sS hO6 (by simp) (by simp)) ?_
  have q1 := (Rec.RowH.one y1).1
  have q2 := (Rec.RowH.one y2).1
  obtain ⟨inf, hi1, hz1, hsz1, hby⟩ := inf95
  have hUW := hU.then_ hU6 (fun x hx => by cases hx)
  refine st_append (h := ho) (F := (g6, .cells (enV ⟨r, frB r⟩ (.slice B1 r.ts.length m1) (.slice B2 r.ds.length m2) (.slice Ab (frB r).length cb)).toArray 95 (0, 0)) :: (g1, reO r vt vd) :: (g, logO dv s x) :: ((kt ++ kd) ++ (hb ++ (hk ++ F)))) (ys := enV ⟨r, frB r⟩ (.slice B1 r.ts.length m1) (.slice B2 r.ds.length m2) (.slice Ab (frB r).length cb)) (m := 1) u87 hi1 hz1 hsz1 hby rfl (by omega) hrow ?_ hUW (fun p hp => hh p (List.mem_cons_of_mem _ (List.mem_append_left _ hp))) (rd_rowN (n := 1) (c := 1) (hO6.at_ 0 rfl) rfl (by omega) rfl) (enV_one _ q1 q2 rfl) (by unfold maxLen; omega) (by omega) ?_
  · refine hO6.perm ?_
    classical
    refine List.perm_iff_count.2 fun y => ?_
    simp only [List.count_cons, List.count_append]
    omega
  intro v7 w7 h7 hr7 hO7 hU7 hh7
  refine st_same (sS hO7 (by simp) (by simp)) ?_
  simp (disch := first | exact hne | assumption | omega) only [SX, add_mk, Nat.reduceAdd]
  have hO8 : Owns w7 ((g, logO dv s x) :: (h7 ++ ((g6, .cells (enV ⟨r, frB r⟩ (.slice B1 r.ts.length m1) (.slice B2 r.ds.length m2) (.slice Ab (frB r).length cb)).toArray 95 (0, 0)) :: (g1, reO r vt vd) :: ((kt ++ kd) ++ (hb ++ (hk ++ F)))))) := by
    refine hO7.perm ?_
    classical
    refine List.perm_iff_count.2 fun y => ?_
    simp only [List.count_cons, List.count_append]
    omega
  have hgW := hh (g, logO dv s x) (List.mem_cons_self ..)
  refine st_storeB sz87 (Rec.RowH.one hr7).2 hU7 hO8 0 rfl (by simp) (.inr (Nat.zero_le _)) hgW ?_
  intro w9 hU9 hO9
  have hO9 : Owns w9 ((g, logO dv { s with L := s.L ++ [⟨r, frB r⟩] } v7) :: (h7 ++ ((g6, .cells (enV ⟨r, frB r⟩ (.slice B1 r.ts.length m1) (.slice B2 r.ds.length m2) (.slice Ab (frB r).length cb)).toArray 95 (0, 0)) :: (g1, reO r vt vd) :: ((kt ++ kd) ++ (hb ++ (hk ++ F)))))) := hO9
  refine st_keepT (fun _ => True) trivial ?_
  have d3 := (log_cells (hO9.at_ 0 rfl)).2.2.2.1
  simp (disch := first | assumption | omega) only [PX, LX, add_mk, Nat.reduceAdd, w64]
  refine st_storeB sz3 rfl hU9 hO9 0 rfl (by simp) (.inr (Nat.zero_le _)) hgW ?_
  intro w10 hU10 hO10
  refine ⟨trivial, hU10, (g, logO dv { s with L := s.L ++ [⟨r, frB r⟩], size := s.size + (frB r).length } v7) :: (h7 ++ ((kt ++ kd) ++ (hb ++ hk))), ⟨g, v7, rows ++ [_], h7, (kt ++ kd) ++ (hb ++ hk), rfl, rfl, ?_, OutE.snoc (vb := .slice Ab (frB r).length cb) (hk := hk) hout (fun p hp => by grind) q1 q2 rfl ?_⟩, ?_, ?_⟩
  · rw [List.flatMap_append, List.length_append]; simpa using hr7
  · intro w' hs
    refine ⟨RowH.rdS y1 fun p hp => hs p (by grind), RowH.rdS y2 fun p hp => hs p (by grind), ?_⟩
    exact b1.rd (F := []) ⟨by rw [List.append_nil]; exact b2.1, fun p hp => hs p (by rw [List.append_nil] at hp; grind)⟩
  · have hO10 : Owns w10 ((g, logO dv { s with L := s.L ++ [⟨r, frB r⟩], size := s.size + (frB r).length } v7) :: (h7 ++ ((g6, .cells (enV ⟨r, frB r⟩ (.slice B1 r.ts.length m1) (.slice B2 r.ds.length m2) (.slice Ab (frB r).length cb)).toArray 95 (0, 0)) :: (g1, reO r vt vd) :: ((kt ++ kd) ++ (hb ++ (hk ++ F)))))) := hO10
    have := hO10.sub (.cons_cons _ (List.Sublist.append (List.Sublist.refl h7) (.cons _ (.cons _ (List.Sublist.refl _)))))
    simpa only [List.cons_append, List.append_assoc] using this
  · intro p hp
    have hs1 := hU.size
    rcases List.mem_cons.1 hp with rfl | hp
    · exact hgW
    rcases List.mem_append.1 hp with hp | hp
    · exact hh7 p hp
    rcases List.mem_append.1 hp with hp | hp
    · exact .inr (Nat.le_trans hs1 (Nat.le_trans hU4.size (y3 p hp)))
    rcases List.mem_append.1 hp with hp | hp
    · exact .inr (Nat.le_trans hs1 (Nat.le_trans hU1.size (b4 p hp)))
    · exact hh p (List.mem_cons_of_mem _ (List.mem_append_right _ hp))
end Go.Proofs.Ytplpjikcgheiiaa.Wal

/- Logs: Append, Keep, Spend, Drop. -/
namespace Go.Proofs.Ytplpjikcgheiiaa.Wal
open Go Go.Proofs.Ytplpjikcgheiiaa Go.Proofs.Ytplpjikcgheiiaa.Rec Xf Go.RowKit
set_option linter.unusedVariables false
set_option linter.unusedSimpArgs false
set_option maxRecDepth 100000

noncomputable def spendL (s : Lg) (r : Re) : Lg × Int := if (joinL s r s.kp).2 = 0 then ({ (joinL s r s.kp).1 with kp := s.kp - (frB r).length }, 0) else joinL s r s.kp
def keepL (n : Nat) (s : Lg) (m : Int) : Lg × Int := if m < 0 then (s, 1) else if roomL n s < m then (s, 7) else ({ s with kp := s.kp + m.toNat }, 0)
def dropL (s : Lg) (m : Int) : Lg := if 0 < m then { s with kp := s.kp - min m.toNat s.kp } else s
theorem frB_len6 (r : Re) : 6 ≤ (frB r).length := by rw [frB_len]; omega
theorem joinL_ok {s : Lg} {r : Re} {room : Int} (h : (joinL s r room).2 = 0) : okP r ∧ lastL s.L < r.lsn ∧ ((frB r).length : Int) ≤ room ∧ (joinL s r room).1 = { s with L := s.L ++ [⟨r, frB r⟩], size := s.size + (frB r).length } := by
  unfold joinL at h ⊢
  split at h
  · cases h
  rename_i h1
  split at h
  · cases h
  rename_i h2
  rw [if_neg h1, if_neg h2]
  exact ⟨Decidable.not_not.1 fun h => h1 (.inl h), Nat.lt_of_not_le fun h => h1 (.inr h), by omega, rfl⟩
theorem joinL_no {s : Lg} {r : Re} {room : Int} (h : (joinL s r room).2 ≠ 0) : (joinL s r room).1 = s := by
  unfold joinL at h ⊢
  split
  · rfl
  split
  · rfl
  rename_i h1 h2
  rw [if_neg h1, if_neg h2] at h
  exact absurd rfl h
theorem LgFit.join {n : Nat} {s : Lg} {r : Re} {room : Int} (fit : LgFit n s) (hr : room ≤ roomL n s) : LgFit n (joinL s r room).1 := by
  by_cases h : (joinL s r room).2 = 0
  · obtain ⟨h1, h2, h3, h4⟩ := joinL_ok h
    have h6 := frB_len6 r
    rw [h4]
    unfold roomL at hr
    exact ⟨fit.most, by have := fit.room; simp only; omega, by have := fit.six; simp only [List.length_append, List.length_singleton]; omega, by have := fit.st; simp only [List.length_append, List.length_singleton]; omega,
      by have := fit.fl; simp only [List.length_append, List.length_singleton]; omega, by have := fit.mkd; simp only; omega, fun x hx => by
        rcases List.mem_append.1 hx with hx | hx
        · exact fit.ok x hx
        · rw [List.mem_singleton] at hx; subst hx; exact h1, by rw [flatB_snoc, List.length_append, fit.flat], fit.hand⟩
  · rw [joinL_no h]; exact fit
theorem LgFit.spend {n : Nat} {s : Lg} {r : Re} (fit : LgFit n s) : LgFit n (spendL s r).1 := by
  unfold spendL
  split
  · rename_i h
    obtain ⟨h1, h2, h3, h4⟩ := joinL_ok h
    have h6 := frB_len6 r
    rw [h4]
    exact ⟨fit.most, by have := fit.room; simp only; omega, by have := fit.six; simp only [List.length_append, List.length_singleton]; omega, by have := fit.st; simp only [List.length_append, List.length_singleton]; omega,
      by have := fit.fl; simp only [List.length_append, List.length_singleton]; omega, by have := fit.mkd; simp only; omega, fun x hx => by
        rcases List.mem_append.1 hx with hx | hx
        · exact fit.ok x hx
        · rw [List.mem_singleton] at hx; subst hx; exact h1, by rw [flatB_snoc, List.length_append, fit.flat], fit.hand⟩
  · rename_i h
    rw [joinL_no h]; exact fit
theorem LgFit.keep {n : Nat} {s : Lg} {m : Int} (fit : LgFit n s) : LgFit n (keepL n s m).1 := by
  unfold keepL
  split
  · exact fit
  split
  · exact fit
  · rename_i h1 h2
    unfold roomL at h2
    exact ⟨fit.most, by have := fit.room; simp only; omega, fit.six, fit.st, fit.fl, fit.mkd, fit.ok, fit.flat, fit.hand⟩
theorem LgFit.drop {n : Nat} {s : Lg} {m : Int} (fit : LgFit n s) : LgFit n (dropL s m) := by
  unfold dropL
  split
  · exact ⟨fit.most, by have := fit.room; simp only; omega, fit.six, fit.st, fit.fl, fit.mkd, fit.ok, fit.flat, fit.hand⟩
  · exact fit
theorem LgFit.len {n : Nat} {s : Lg} (fit : LgFit n s) : s.L.length ≤ 65536 ∧ s.size ≤ 65536 ∧ s.kp ≤ 65536 := by
  have h1 := fit.most
  have h2 := fit.room
  have h3 := fit.six
  omega

section
variable {w W : World} {ks : List Nat} {d : Dv} {dv v : Value} {s : Lg} {h hd F : List (Nat × Obj)}
theorem Append_spec (hl : LogH dv s v h) (hd' : DevH d dv hd) (hO : Owns w (h ++ (hd ++ F))) (hU : Upd W w ks) (hh : ∀ p ∈ h, p.1 ∈ ks ∨ W.heap.size ≤ p.1) (fit : LgFit d.B.length s) {vr : Value} {r : Re} (hr : RdRe w vr r) :
    CallsR Try.prog 12 #[v, vr] w fun u w' => u = .int .i64 (joinL s r (roomL d.B.length s)).2 ∧ Upd W w' ks ∧ ∃ h', LogH dv (joinL s r (roomL d.B.length s)).1 v h' ∧ Owns w' (h' ++ (hd ++ F)) ∧ ∀ p ∈ h', p.1 ∈ ks ∨ W.heap.size ≤ p.1 := by
  obtain ⟨vt, vd, rfl, ht, hdi⟩ := hr
  apply wal_Log_Append_sound
  unfold wal_Log_Append_x
  refine st_box (Upd.refl w []) hO ?_
  intro g1 w1 hU1 hO1 hg1
  have hO1 : Owns w1 ((g1, reO r vt vd) :: (h ++ (hd ++ F))) := hO1
  have hO2 := hO1.ext (Upd.drew w1 [])
  have hU2 := hU1.trans (Upd.drew w1 [])
  let SS : World → Prop := fun w' => w'.heap[g1]? = some (reO r vt vd)
  have hS2 : SS w1.drew := hO2.at_ 0 rfl
  have hne : ∃ w', SS w' := ⟨_, hS2⟩
  refine st_draw SS hS2 ?_
  rw [stepS_run hne fun w' hs => run_re hs]
  refine st_call (Room_spec hl (fun p hp => by grind) hO2 hd' (fun p hp => by grind) fit) ?_
  rintro _ w3 ⟨rfl, hU3, hO3⟩
  refine st_same (hO3.at_ 0 rfl) ?_
  have hU4 := hU2.trans hU3
  have hl2 := fit.len
  have hm := fit.most
  refine st_call (join_spec (F := hd ++ F) hl (hO3.sub (List.sublist_cons_self _ _)) (hU.then_ hU4 fun x hx => by cases hx) hh hl2.2.1 hl2.1 ⟨vt, vd, rfl, ht.mono hU4, hdi.mono hU4⟩ _ (by unfold roomL; omega)) ?_
  rintro _ w5 ⟨rfl, hU5, hx⟩
  refine st_keepT (fun _ => True) trivial ?_
  exact ⟨rfl, hU5, hx⟩
theorem Keep_spec (hl : LogH dv s v h) (hd' : DevH d dv hd) (hO : Owns w (h ++ (hd ++ F))) (hU : Upd W w ks) (hh : ∀ p ∈ h, p.1 ∈ ks ∨ W.heap.size ≤ p.1) (fit : LgFit d.B.length s) (m : Int) (hm : -9223372036854775808 ≤ m) :
    CallsR Try.prog 29 #[v, .int .i64 m] w fun u w' => u = .int .i64 (keepL d.B.length s m).2 ∧ Upd W w' ks ∧ ∃ h', LogH dv (keepL d.B.length s m).1 v h' ∧ Owns w' (h' ++ (hd ++ F)) ∧ ∀ p ∈ h', p.1 ∈ ks ∨ W.heap.size ≤ p.1 := by
  have hl0 := hl
  obtain ⟨g, x, rows, ho, hk, rfl, rfl, hrow, hout⟩ := hl
  apply wal_Log_Keep_sound
  unfold wal_Log_Keep_x
  simp (disch := first | assumption | omega) only [PX, BX]
  refine ⟨fun h0 => ?_, fun h0 => ?_⟩
  · have : keepL d.B.length s m = (s, 1) := by unfold keepL; rw [if_pos h0]
    rw [this]; exact ⟨rfl, hU, _, hl0, hO, hh⟩
  refine st_call (Room_spec hl0 (fun p hp => List.mem_append_left _ hp) hO hd' (fun p hp => List.mem_append_right _ (List.mem_append_left _ hp)) fit) ?_
  rintro _ w3 ⟨rfl, hU3, hO3⟩
  have hU4 := hU.then_ hU3 (fun x hx => by cases hx)
  simp (disch := first | assumption | omega) only [PX, BX]
  refine ⟨fun h1 => ?_, fun h1 => ?_⟩
  · have : keepL d.B.length s m = (s, 7) := by unfold keepL; rw [if_neg h0, if_pos (by omega)]
    rw [this]; exact ⟨rfl, hU4, _, hl0, hO3, hh⟩
  have : keepL d.B.length s m = ({ s with kp := s.kp + m.toNat }, 0) := by unfold keepL; rw [if_neg h0, if_neg (by omega)]
  rw [this]
  have hO3 : Owns w3 ((g, logO dv s x) :: ((ho ++ hk) ++ (hd ++ F))) := hO3
  have d8 := (log_cells (hO3.at_ 0 rfl)).2.2.2.2.2.2.2.2
  have hmost := fit.most
  have hroom := fit.room
  unfold roomL at h1
  have hw : IntKind.i64.wrap ((s.kp : Int) + m) = ((s.kp + m.toNat : Nat) : Int) := by rw [w64 (by omega) (by omega)]; omega
  simp (disch := first | assumption | omega) only [PX, LX, add_mk, Nat.reduceAdd, hw]
  refine st_storeB sz3 rfl hU4 hO3 0 rfl (by simp) (.inr (Nat.zero_le _)) (hh _ (List.mem_cons_self ..)) ?_
  intro w5 hU5 hO5
  exact ⟨trivial, hU5, (g, logO dv { s with kp := s.kp + m.toNat } x) :: (ho ++ hk), ⟨g, x, rows, ho, hk, rfl, rfl, hrow, hout⟩, hO5, fun p hp => by
    rcases List.mem_cons.1 hp with rfl | hp
    · exact hh (g, logO dv s x) (List.mem_cons_self ..)
    · exact hh p (List.mem_cons_of_mem _ hp)⟩
theorem Drop_spec (hl : LogH dv s v h) (hO : Owns w (h ++ F)) (hU : Upd W w ks) (hh : ∀ p ∈ h, p.1 ∈ ks ∨ W.heap.size ≤ p.1) (hkp : s.kp ≤ 65536) (m : Int) :
    CallsR Try.prog 37 #[v, .int .i64 m] w fun u w' => u = .tuple #[] ∧ Upd W w' ks ∧ ∃ h', LogH dv (dropL s m) v h' ∧ Owns w' (h' ++ F) ∧ ∀ p ∈ h', p.1 ∈ ks ∨ W.heap.size ≤ p.1 := by
  have hl0 := hl
  obtain ⟨g, x, rows, ho, hk, rfl, rfl, hrow, hout⟩ := hl
  apply wal_Log_Drop_sound
  unfold wal_Log_Drop_x
  simp (disch := first | assumption | omega) only [PX, BX]
  refine ⟨fun h0 => ?_, fun h0 => ?_⟩
  · have hd : dropL s m = { s with kp := s.kp - min m.toNat s.kp } := by unfold dropL; rw [if_pos (by omega)]
    rw [hd]
    have hO1 := hO.ext (Upd.drew w [])
    have hU1 := hU.then_ (Upd.drew w []) (fun x hx => by cases hx)
    let SS : World → Prop := fun w' => w'.heap[g]? = some (logO dv s x)
    have hS : SS w.drew := hO1.at_ 0 rfl
    have hne : ∃ w', SS w' := ⟨_, hS⟩
    have c8 : ∀ w', SS w' → w'.cell? ⟨g, 8, none⟩ = some (.int .i64 (s.kp : Nat)) := fun w' hs => (log_cells hs).2.2.2.2.2.2.2.2
    refine st_draw SS hS ?_
    simp (disch := first | exact hne | assumption | omega) only [SX, SLX, add_mk, Nat.reduceAdd]
    have hw : ∀ y : Int, y = min m (s.kp : Int) → IntKind.i64.wrap ((s.kp : Int) - y) = ((s.kp - min m.toNat s.kp : Nat) : Int) := fun y hy => by rw [w64 (by omega) (by omega)]; omega
    rw [hw _ (by first | rfl | omega)]
    refine st_storeB sz3 rfl hU1 hO1 0 rfl (by simp) (.inr (Nat.zero_le _)) (hh _ (List.mem_cons_self ..)) ?_
    intro w5 hU5 hO5
    refine st_keepT (fun _ => True) trivial ?_
    exact ⟨trivial, hU5, (g, logO dv { s with kp := s.kp - min m.toNat s.kp } x) :: (ho ++ hk), ⟨g, x, rows, ho, hk, rfl, rfl, hrow, hout⟩, hO5, fun p hp => by
      rcases List.mem_cons.1 hp with rfl | hp
      · exact hh (g, logO dv s x) (List.mem_cons_self ..)
      · exact hh p (List.mem_cons_of_mem _ hp)⟩
  · have hd : dropL s m = s := by unfold dropL; rw [if_neg (by omega)]
    rw [hd]
    exact ⟨trivial, hU, _, hl0, hO, hh⟩
theorem Spend_spec (hl : LogH dv s v h) (hO : Owns w (h ++ F)) (hU : Upd W w ks) (hh : ∀ p ∈ h, p.1 ∈ ks ∨ W.heap.size ≤ p.1) {n : Nat} (fit : LgFit n s) {vr : Value} {r : Re} (hr : RdRe w vr r) :
    CallsR Try.prog 33 #[v, vr] w fun u w' => u = .int .i64 (spendL s r).2 ∧ Upd W w' ks ∧ ∃ h', LogH dv (spendL s r).1 v h' ∧ Owns w' (h' ++ F) ∧ ∀ p ∈ h', p.1 ∈ ks ∨ W.heap.size ≤ p.1 := by
  obtain ⟨vt, vd, rfl, ht, hdi⟩ := hr
  apply wal_Log_Spend_sound
  unfold wal_Log_Spend_x wal_Log_Spend_k1
  refine st_box (Upd.refl w []) hO ?_
  intro g1 w1 hU1 hO1 hg1
  have hO1 : Owns w1 ((g1, reO r vt vd) :: (h ++ F)) := hO1
  have hO2 := hO1.ext (Upd.drew w1 [])
  have hU2 := hU1.trans (Upd.drew w1 [])
  let SS : World → Prop := fun w' => w'.heap[g1]? = some (reO r vt vd)
  have hS2 : SS w1.drew := hO2.at_ 0 rfl
  have hne : ∃ w', SS w' := ⟨_, hS2⟩
  refine st_draw SS hS2 ?_
  rw [stepS_run hne fun w' hs => run_re hs]
  refine st_call (Kept_spec hl (fun p hp => by grind) hO2) ?_
  rintro _ w3 ⟨rfl, rfl⟩
  refine st_same hS2 ?_
  have hl2 := fit.len
  have hm := fit.most
  refine st_call (join_spec (F := F) hl (hO2.sub (List.sublist_cons_self _ _)) (hU.then_ hU2 fun x hx => by cases hx) hh hl2.2.1 hl2.1 ⟨vt, vd, rfl, ht.mono hU2, hdi.mono hU2⟩ _ (by omega)) ?_
  rintro _ w5 ⟨rfl, hU5, h5, hl5, hO5, hh5⟩
  refine st_keepT (fun _ => True) trivial ?_
  simp (disch := first | assumption | omega) only [PX, BX]
  refine ⟨fun h0 => ?_, fun h0 => ?_⟩
  · have hs : spendL s r = ({ (joinL s r s.kp).1 with kp := s.kp - (frB r).length }, 0) := by unfold spendL; rw [if_pos h0]
    obtain ⟨j1, j2, j3, j4⟩ := joinL_ok h0
    rw [j4] at hl5
    rw [hs, h0, j4]
    obtain ⟨g, x, rows, ho, hk, rfl, rfl, hrow, hout⟩ := hl5
    have hO6 := hO5.ext (Upd.drew w5 [])
    have hU6 := hU5.then_ (Upd.drew w5 []) (fun x hx => by cases hx)
    let s' : Lg := { s with L := s.L ++ [⟨r, frB r⟩], size := s.size + (frB r).length }
    let S2 : World → Prop := fun w' => stands w' ((g, logO dv s' x) :: (ho ++ hk) ++ F)
    have hS : S2 w5.drew := stands.of hO6
    have hne2 : ∃ w', S2 w' := ⟨_, hS⟩
    have c2 : ∀ w', S2 w' → w'.cell? ⟨g, 2, none⟩ = some x := fun w' hs => (log_cells (hs _ (List.mem_cons_self ..))).2.2.1
    have c8 : ∀ w', S2 w' → w'.cell? ⟨g, 8, none⟩ = some (.int .i64 (s.kp : Nat)) := fun w' hs => (log_cells (hs _ (List.mem_cons_self ..))).2.2.2.2.2.2.2.2
    obtain ⟨g7, cap, cs, hx7, hho⟩ : ∃ g7 cap cs, x = .slice (some ⟨g7, 0, none⟩) s'.L.length cap ∧ ho = [(g7, .cells cs 95 (0, 0))] := by
      rcases hrow.2 with ⟨h1, h2, _⟩ | ⟨g7, cap, cs, h1, h2, _⟩
      · simp at h2
      · exact ⟨g7, cap, cs, h1, h2⟩
    have hcell : ∀ {w' w'' : World} (p : Addr), S2 w' → S2 w'' → p.block = g7 → w'.cell? p = w''.cell? p := fun p h1 h2 hp => by
      refine World.cell?_of_block ?_
      have hm : (g7, Obj.cells cs 95 (0, 0)) ∈ (g, logO dv s' x) :: (ho ++ hk) ++ F := by rw [hho]; simp
      rw [hp, h1 _ hm, h2 _ hm]
    have hE : ∀ w', S2 w' → RdE w' x s'.L := fun w' hs => hout.rd hrow (fun p hp => hs p (by grind)) (fun p hp => hs p (by grind))
    obtain ⟨Ax, cx, hxx, hmx, hE0⟩ := hE _ hS
    rw [hx7] at hxx
    injection hxx with hA
    subst hA
    have hls : s'.L.length = s.L.length + 1 := by simp [s']
    obtain ⟨a, xt, xd, xb, ha, hc, o1, o2, o3, rt, rd, rb⟩ := hE0 s.L.length (by omega)
    injection ha with ha
    subst ha
    obtain ⟨Ab, cb, rfl, -⟩ := rb
    have hlast : s'.L[s.L.length]'(by omega) = ⟨r, frB r⟩ := by simp [s']
    have hcb : ∀ w', S2 w' → w'.cell? ⟨g7, 0 + s.L.length * 13 + 12, none⟩ = some (.slice Ab (frB r).length cb) := fun w' hs => by
      rw [hcell _ hs hS rfl]
      have := hc 12 (.slice Ab _ cb) (by unfold enV; rfl)
      rw [hlast, add_mk, add_mk] at this
      exact this
    subst hx7
    refine st_draw S2 hS ?_
    have hw1 : IntKind.i64.wrap ((s'.L.length : Int) - 1) = ((s.L.length : Nat) : Int) := by rw [hls, w64 (by omega) (by omega)]; omega
    have hi' : s.L.length < s'.L.length := by omega
    simp (disch := first | exact hne2 | assumption | omega) only [SX, SLX, add_mk, Nat.reduceAdd, hw1]
    have hw2 : IntKind.i64.wrap ((s.kp : Int) - ((frB r).length : Nat)) = ((s.kp - (frB r).length : Nat) : Int) := by rw [w64 (by omega) (by omega)]; omega
    rw [hw2]
    have hO6 : Owns w5.drew ((g, logO dv s' (.slice (some ⟨g7, 0, none⟩) s'.L.length cap)) :: ((ho ++ hk) ++ F)) := hO6
    refine st_storeB sz3 rfl hU6 hO6 0 rfl (by simp) (.inr (Nat.zero_le _)) (hh5 _ (List.mem_cons_self ..)) ?_
    intro w7 hU7 hO7
    refine st_keepT (fun _ => True) trivial ?_
    exact ⟨trivial, hU7, (g, logO dv { s' with kp := s.kp - (frB r).length } (.slice (some ⟨g7, 0, none⟩) s'.L.length cap)) :: (ho ++ hk), ⟨g, _, rows, ho, hk, rfl, rfl, hrow, hout⟩, hO7, fun p hp => by
      rcases List.mem_cons.1 hp with rfl | hp
      · exact hh5 (g, logO dv s' (.slice (some ⟨g7, 0, none⟩) s'.L.length cap)) (List.mem_cons_self ..)
      · exact hh5 p (List.mem_cons_of_mem _ hp)⟩
  · have hs : spendL s r = joinL s r s.kp := by unfold spendL; rw [if_neg h0]
    rw [hs]
    exact ⟨rfl, hU5, h5, hl5, hO5, hh5⟩
end
end Go.Proofs.Ytplpjikcgheiiaa.Wal

/- Logs: what lays its bytes. -/
namespace Go.Proofs.Ytplpjikcgheiiaa.Wal
open Go Go.Proofs.Ytplpjikcgheiiaa Go.Proofs.Ytplpjikcgheiiaa.Rec Xf Go.RowKit
set_option linter.unusedVariables false
set_option linter.unusedSimpArgs false
set_option maxRecDepth 100000

theorem step_enter {P : Program} {s : Sem Next} {f : FuncId} {args : Array Value} {w w' : World} {K : Value → World → Prop} (h : s.run P w = .ok (.enter f args) w') : (std P).step s w K = CallsR P f args w' K := by
  show StepX P s w K = _
  unfold StepX
  rw [h]
theorem inv_entry (v b : Value) (w : World) : (sInvoke (.iface 95 v) "flotilla/wal.lay" [b]).run Try.prog w = .ok (.enter 128 #[v, b]) w := by kernel_rfl
theorem inv_fill (v b : Value) (w : World) : (sInvoke (.iface 97 v) "flotilla/wal.lay" [b]).run Try.prog w = .ok (.enter 44 #[v, b]) w := by kernel_rfl
theorem if_entry (v : Value) (w : World) : (sIface 95 v).run Try.prog w = .ok (.value (.iface 95 v)) w := by kernel_rfl
theorem if_fill (v : Value) (w : World) : (sIface 97 v).run Try.prog w = .ok (.value (.iface 97 v)) w := by kernel_rfl
theorem build_fill (w : World) : (sBuild 97 []).run Try.prog w = .ok (.value (.agg #[])) w := by kernel_rfl
theorem row_if (t : TypeId) (v : Value) (w : World) : (sBuildSlice 93 1 [(0, .iface t v)]).run Try.prog w = .ok (.value (.slice (some ⟨w.heap.size, 0, none⟩) 1 1)) (w.alloc (.cells #[.iface t v] 99)) := by kernel_rfl

theorem OutE.at_ {v : Value} {L : List En} {rows : List (List Value)} {hk ho : List (Nat × Obj)} (h : OutE L rows hk) (hr : RowH 95 13 v L.length (rows.flatMap id) ho) :
    ∃ A c, v = .slice A L.length c ∧ ∀ i (hi : i < L.length), ∃ a vt vd vb, A = some a ∧ rows[i]? = some (enV L[i] vt vd vb) ∧ vt.oneCell' = true ∧ vd.oneCell' = true ∧ vb.oneCell' = true ∧
      ∀ w, stands w ho → stands w hk → (∀ j u, (enV L[i] vt vd vb)[j]? = some u → w.cell? ((a.add (i * 13)).add j) = some u) ∧ RdS w txV 3 vt L[i].r.ts ∧ RdS w diV 2 vd L[i].r.ds ∧ Rd w 1 vb L[i].b.length (bytesV L[i].b) := by
  have hall : ∀ x ∈ rows, x.length = 13 := fun x hx => by
    obtain ⟨i, hi, rfl⟩ := List.mem_iff_getElem.1 hx
    obtain ⟨vt, vd, vb, he, _⟩ := h.2 i (by rw [← h.1]; exact hi)
    rw [List.getElem?_eq_getElem hi] at he
    injection he with he
    rw [he]; rfl
  have hnd : (ho.map (·.1)).Nodup := by rcases hr.2 with ⟨_, _, rfl⟩ | ⟨g, _, _, _, rfl, _⟩ <;> simp
  obtain ⟨A, c, rfl⟩ := RowH.isSl hr
  refine ⟨A, c, rfl, fun i hi => ?_⟩
  obtain ⟨vt, vd, vb, he, h1, h2, h3, h4⟩ := h.2 i hi
  have hA : ∃ a, A = some a := by
    rcases hr.2 with ⟨_, h0, _⟩ | ⟨g, cap, cs, h1, _⟩
    · omega
    · injection h1 with h1 _ _; exact ⟨_, h1⟩
  obtain ⟨a, rfl⟩ := hA
  refine ⟨a, vt, vd, vb, rfl, he, h1, h2, h3, fun w s1 s2 => ?_⟩
  have hrd : Rd w 13 (.slice (some a) L.length c) L.length (rows.flatMap id) := hr.rd (F := []) ⟨by rw [List.append_nil]; exact hnd, by rw [List.append_nil]; exact s1⟩
  obtain ⟨A', c', hx, hc, hlen, hcell⟩ := hrd
  injection hx with hx _ _
  subst hx
  have hat : ∀ j u, (enV L[i] vt vd vb)[j]? = some u → (rows.flatMap id)[i * 13 + j]? = some u := by
    intro j u hu
    have hj : j < 13 := by have := (List.getElem?_eq_some_iff.1 hu).1; rwa [enV_len] at this
    have aux : ∀ (rs : List (List Value)) (k : Nat) (row : List Value), (∀ x ∈ rs, x.length = 13) → rs[k]? = some row → (rs.flatMap id)[k * 13 + j]? = row[j]? := by
      intro rs
      induction rs with
      | nil => intro k row _ hk; simp at hk
      | cons x rs ih =>
        intro k row hx hk
        have hx0 := hx x (List.mem_cons_self ..)
        cases k with
        | zero =>
          simp only [List.getElem?_cons_zero, Option.some.injEq] at hk
          subst hk
          rw [List.flatMap_cons, Nat.zero_mul, Nat.zero_add]
          exact List.getElem?_append_left (by rw [id, hx0]; exact hj)
        | succ k =>
          simp only [List.getElem?_cons_succ] at hk
          rw [List.flatMap_cons, List.getElem?_append_right (by rw [id, hx0]; omega), id, hx0, show (k + 1) * 13 + j - 13 = k * 13 + j by omega]
          exact ih k row (fun y hy => hx y (List.mem_cons_of_mem _ hy)) hk
    rw [aux rows i _ hall he]; exact hu
  refine ⟨fun j u hu => ?_, h4 w s2⟩
  obtain ⟨a', ha', hx⟩ := hcell _ _ (hat j u hu)
  injection ha' with ha'
  subst ha'
  rw [add_add']; exact hx

/-- bytes, and noughts up to a multiple of 64 -/
def padB (l : List UInt8) : List UInt8 := l ++ List.replicate ((64 - l.length % 64) % 64) 0
theorem padB_len (l : List UInt8) : (padB l).length = up64 l.length := by
  unfold padB up64
  rw [List.length_append, List.length_replicate]; omega
section
variable {w W : World} {ks : List Nat} {F : List (Nat × Obj)}
theorem entry_lay_spec {x : En} {vt vd vb v0 : Value} {l : List UInt8} {hb : List (Nat × Obj)} (hr : RowH 5 1 v0 l.length (bytesV l) hb) (hO : Owns w (hb ++ F)) (hU : Upd W w ks) (hh : ∀ p ∈ hb, p.1 ∈ ks ∨ W.heap.size ≤ p.1)
    (hx : Rd w 1 vb x.b.length (bytesV x.b)) (hl : l.length + x.b.length ≤ 140737488355328) :
    CallsR Try.prog 128 #[.agg (enV x vt vd vb).toArray, v0] w fun u w' => ∃ h', RowH 5 1 u (l ++ x.b).length (bytesV (l ++ x.b)) h' ∧ Owns w' (h' ++ F) ∧ Upd W w' ks ∧ ∀ p ∈ h', p.1 ∈ ks ∨ W.heap.size ≤ p.1 := by
  apply wal_entry_lay_sound
  unfold wal_entry_lay_x
  refine st_box (Upd.refl w []) hO ?_
  intro g w1 hU1 hO1 hg
  have c12 : w1.cell? ⟨g, 12, none⟩ = some vb := (cell_at (hO1.at_ 0 rfl)).trans rfl
  simp (disch := first | assumption | omega) only [PX, LX, add_mk, Nat.reduceAdd]
  refine Crc.st_app hr (hO1.sub (List.sublist_cons_self _ _)) (hU.then_ hU1 fun x hx => by cases hx) hh (hx.mono hU1) (by omega) ?_
  intro v6 w6 h6 hr6 hO6 hU6 hh6
  refine ⟨h6, ?_, hO6, hU6, hh6⟩
  rw [List.length_append]; exact hr6
theorem fill_lay_spec {v0 : Value} {l : List UInt8} {hb : List (Nat × Obj)} (hr : RowH 5 1 v0 l.length (bytesV l) hb) (hO : Owns w (hb ++ F)) (hU : Upd W w ks) (hh : ∀ p ∈ hb, p.1 ∈ ks ∨ W.heap.size ≤ p.1) (hl : l.length + 64 ≤ 140737488355328) :
    CallsR Try.prog 44 #[.agg #[], v0] w fun u w' => ∃ h', RowH 5 1 u (padB l).length (bytesV (padB l)) h' ∧ Owns w' (h' ++ F) ∧ Upd W w' ks ∧ ∀ p ∈ h', p.1 ∈ ks ∨ W.heap.size ≤ p.1 := by
  apply wal_fill_lay_sound
  unfold wal_fill_lay_x
  refine st_box hU hO ?_
  intro g w1 hU1 hO1 hg
  refine st_loop (fun vs w' => ∃ (k : Nat) (h' : List (Nat × Obj)), k ≤ (64 - l.length % 64) % 64 ∧ RowH 5 1 (vs.getD 0 undef) (l ++ List.replicate k 0).length (bytesV (l ++ List.replicate k 0)) h' ∧ Owns w' (h' ++ F) ∧ Upd W w' ks ∧ ∀ p ∈ h', p.1 ∈ ks ∨ W.heap.size ≤ p.1)
    (fun vs _ => 64 - (match vs.getD 0 undef with | .slice _ n _ => n - l.length | _ => 0)) ⟨0, hb, Nat.zero_le _, by simpa using hr, hO1.sub (List.sublist_cons_self _ _), hU1, hh⟩ ?_
  rintro dv vs w2 - ⟨k, h2, hk, hr2, hO2, hU2, hh2⟩
  obtain ⟨A, c, e0⟩ := RowH.isSl hr2
  simp only [e0] at hr2
  simp (disch := omega) only [e0, PX, BX, wal_fill_lay_k1]
  have hlk : (l ++ List.replicate k (0 : UInt8)).length = l.length + k := by rw [List.length_append, List.length_replicate]
  rw [tmod64 (by omega)]
  refine ⟨fun hne => ?_, fun he => ?_⟩
  · have hk1 : k + 1 ≤ (64 - l.length % 64) % 64 := by rw [hlk] at hne; omega
    refine st_newRow (Enc.one_byte 0) hU2 hO2 ?_
    intro g3 w3 hU3 hO3 hg3
    refine Crc.st_app (F := (g3, .cells (bytesV [0]).toArray 5 (0, 0)) :: F) (b := [0]) (m := 1) hr2 (hO3.perm List.perm_middle.symm) hU3 hh2 (rd_rowN (n := 1) (c := 1) (hO3.at_ 0 rfl) rfl (by omega) rfl) (by omega) ?_
    intro v6 w6 h6 hr6 hO6 hU6 hh6
    have he2 : l ++ List.replicate k (0 : UInt8) ++ [0] = l ++ List.replicate (k + 1) 0 := by rw [List.append_assoc, ← List.replicate_succ']
    obtain ⟨A6, c6, e6⟩ := RowH.isSl hr6
    refine ⟨⟨k + 1, h6, hk1, ?_, hO6.sub (List.Sublist.append (List.Sublist.refl _) (List.sublist_cons_self _ _)), hU6, hh6⟩, ?_⟩
    · rw [← he2, List.length_append]; exact hr6
    · simp only [e6, List.getD_cons_zero]; rw [hlk]; have h1 : l.length + k + 1 - l.length = k + 1 := by omega
      have h2 : l.length + k - l.length = k := by omega
      rw [h1, h2]; omega
  · have : k = (64 - l.length % 64) % 64 := by rw [hlk] at he; omega
    subst this
    exact ⟨h2, hr2, hO2, hU2, hh2⟩
end
end Go.Proofs.Ytplpjikcgheiiaa.Wal

/- Logs: Force. -/
namespace Go.Proofs.Ytplpjikcgheiiaa.Wal
open Go Go.Proofs.Ytplpjikcgheiiaa Go.Proofs.Ytplpjikcgheiiaa.Rec Xf Go.RowKit
set_option linter.unusedVariables false
set_option linter.unusedSimpArgs false
set_option maxRecDepth 100000

def forceA (s : Lg) : Nat := (flatB (s.L.take s.st)).length / 64 * 64
def forceB (s : Lg) : List UInt8 := (padB (flatB s.L)).drop (forceA s)
def forceS (d : Dv) (s : Lg) : Dv × Int := startD d s.hand ((64 + forceA s : Nat) : Int) (forceB s)
def forceL (d : Dv) (s : Lg) : Dv × Lg × Bool :=
  if 0 < s.fl ∨ s.st = s.L.length then (d, s, false)
  else if (forceS d s).2 ≠ 0 then ((forceS d s).1, s, false)
  else ((forceS d s).1, { s with fl := s.L.length, mkd := s.size, tw := false }, true)
theorem flatB_take_le (L : List En) (n : Nat) : (flatB (L.take n)).length ≤ (flatB L).length := by
  have : flatB L = flatB (L.take n) ++ flatB (L.drop n) := by unfold flatB; rw [← List.flatMap_append, List.take_append_drop]
  rw [this, List.length_append]; omega
def ifc (r : List Value) : Value := .iface 95 (.agg r.toArray)
def fillV : Value := .iface 97 (.agg #[])
def laidB (L : List En) (i : Nat) : List UInt8 := if i ≤ L.length then flatB (L.take i) else padB (flatB L)
theorem flatB_take_succ {L : List En} {i : Nat} (hi : i < L.length) : flatB (L.take (i + 1)) = flatB (L.take i) ++ L[i].b := by
  rw [List.take_succ_eq_append_getElem hi, flatB_snoc]

theorem Force_spec {w W : World} {ks : List Nat} {d : Dv} {dv v : Value} {s : Lg} {h hd F : List (Nat × Obj)} (ok : DvOk d) (hl : LogH dv s v h) (hd' : DevH d dv hd) (hO : Owns w (h ++ (hd ++ F))) (hU : Upd W w ks) (hh : ∀ p ∈ h, p.1 ∈ ks ∨ W.heap.size ≤ p.1) (hh2 : ∀ p ∈ hd, p.1 ∈ ks ∨ W.heap.size ≤ p.1) (fit : LgFit d.B.length s) :
    CallsR Try.prog 13 #[v] w fun u w' => u = .bool (forceL d s).2.2 ∧ Upd W w' ks ∧ ∃ h' hd2, LogH dv (forceL d s).2.1 v h' ∧ DevH (forceL d s).1 dv hd2 ∧ Owns w' (h' ++ (hd2 ++ F)) ∧ (∀ p ∈ h', p.1 ∈ ks ∨ W.heap.size ≤ p.1) ∧ ∀ p ∈ hd2, p.1 ∈ ks ∨ W.heap.size ≤ p.1 := by
  have hl0 := hl
  obtain ⟨g, x, rows, ho, hk, rfl, rfl, hrow, hout⟩ := hl
  have hlen := fit.len
  have hflat := fit.flat
  have hst := fit.st
  apply wal_Log_Force_sound
  unfold wal_Log_Force_x
  have hO1 := hO.ext (Upd.drew w [])
  have hU1 := hU.then_ (Upd.drew w []) (fun x hx => by cases hx)
  generalize hH : (g, logO dv s x) :: (ho ++ hk) ++ (hd ++ F) = H at hO hO1
  have hmg : (g, logO dv s x) ∈ H := by rw [← hH]; simp
  let SS : World → Prop := fun w' => stands w' H
  have hS1 : SS w.drew := stands.of hO1
  have hne : ∃ w', SS w' := ⟨_, hS1⟩
  refine st_draw SS hS1 ?_
  obtain ⟨A, c, rfl, hE⟩ := OutE.at_ hout hrow
  have c2 : ∀ w', SS w' → w'.cell? ⟨g, 2, none⟩ = some (.slice A s.L.length c) := fun w' hs => (log_cells (hs _ hmg)).2.2.1
  have c4 : ∀ w', SS w' → w'.cell? ⟨g, 4, none⟩ = some (.int .i64 (s.st : Nat)) := fun w' hs => (log_cells (hs _ hmg)).2.2.2.2.1
  have c5 : ∀ w', SS w' → w'.cell? ⟨g, 5, none⟩ = some (.int .i64 (s.fl : Nat)) := fun w' hs => (log_cells (hs _ hmg)).2.2.2.2.2.1
  simp (disch := first | exact hne | assumption | omega) only [SX, SLX, BX, add_mk, Nat.reduceAdd]
  have hno : 0 < s.fl ∨ s.st = s.L.length → ∀ {w'}, Upd W w' ks → Owns w' H → Value.bool false = .bool (forceL d s).2.2 ∧ Upd W w' ks ∧ ∃ h' hd2, LogH dv (forceL d s).2.1 (.pointer (some ⟨g, 0, none⟩)) h' ∧ DevH (forceL d s).1 dv hd2 ∧ Owns w' (h' ++ (hd2 ++ F)) ∧ (∀ p ∈ h', p.1 ∈ ks ∨ W.heap.size ≤ p.1) ∧ ∀ p ∈ hd2, p.1 ∈ ks ∨ W.heap.size ≤ p.1 := fun hc w' hu ho' => by
    have : forceL d s = (d, s, false) := by unfold forceL; rw [if_pos hc]
    rw [this]
    exact ⟨rfl, hu, _, _, hl0, hd', by rw [← hH] at ho'; exact ho', hh, hh2⟩
  refine ⟨fun h0 => by unfold wal_Log_Force_k1; exact hno (.inl (by omega)) hU1 hO1, fun h0 => ⟨fun h1 => hno (.inr (by omega)) hU1 hO1, fun h1 => ?_⟩⟩
  have hyes : forceL d s = if (forceS d s).2 ≠ 0 then ((forceS d s).1, s, false) else ((forceS d s).1, { s with fl := s.L.length, mkd := s.size, tw := false }, true) := by
    unfold forceL; rw [if_neg (by omega)]
  clear hno
  have d2 := c2 _ hS1
  simp (disch := first | assumption | omega) only [PX, LX, add_mk, Nat.reduceAdd]
  refine st_loop (fun vs w' => ∃ (i : Nat) (va : Value) (ha : List (Nat × Obj)), i ≤ s.L.length ∧ vs.getD 0 undef = .int .i64 ((flatB (s.L.take (min i s.st))).length : Nat) ∧ vs.getD 1 undef = va ∧ vs.getD 2 undef = .int .i64 i ∧
      RowH 99 1 va i ((rows.take i).map ifc) ha ∧ Owns w' (ha ++ H) ∧ Upd w w' [] ∧ ∀ p ∈ ha, w.heap.size ≤ p.1) (fun vs _ => s.L.length - (intOf (vs.getD 2 undef)).toNat)
    ⟨0, .slice none 0 0, [], by omega, by simp [flatB], rfl, rfl, RowH.nil_ _ _, hO1, Upd.drew w [], fun p hp => by cases hp⟩ ?_
  rintro dv1 vs w2 - ⟨i, va, ha, hi, e0, e1, e2, hra, hO2, hU2, hfa⟩
  simp (disch := first | assumption | omega) only [e0, e1, e2, PX, BX]
  refine ⟨fun hlt => ?_, fun hge => ?_⟩
  · have hi' : i < s.L.length := by omega
    obtain ⟨a, vt, vd, vb, rfl, hri, o1, o2, o3, hcs⟩ := hE i hi'
    have hsH2 : stands w2 H := stands.of (hO2.sub (List.sublist_append_right _ _))
    obtain ⟨hc, -, -, rb⟩ := hcs w2 (fun p hp => hsH2 p (by rw [← hH]; grind)) (fun p hp => hsH2 p (by rw [← hH]; grind))
    simp (disch := omega) only [PX]
    rw [step_run (run_en hc)]
    refine st_alloc ze95 hU2 hO2 ?_
    intro g3 w3 hU3 hO3 hg3
    refine st_storeN (vs := enV s.L[i] vt vd vb) (by rw [sz95]; rfl) hU3 hO3 0 rfl (by simp [enV, reV, Value.cells]) (enV_one _ o1 o2 o3) (.inr hg3) ?_
    intro w4 hU4 hO4
    have hO4 : Owns w4 ((g3, .cells (enV s.L[i] vt vd vb).toArray 95 (0, 0)) :: (ha ++ H)) := hO4
    have hsH4 : stands w4 H := stands.of (hO4.sub ((List.sublist_append_right _ _).trans (List.sublist_cons_self _ _)))
    have d4 := c4 w4 hsH4
    have dvb : w4.cell? ⟨g3, 12, none⟩ = some vb := (cell_at (hO4.at_ 0 rfl)).trans rfl
    obtain ⟨Ab, cb, rfl, -⟩ := rb
    simp (disch := first | assumption | omega) only [PX, BX, LX, add_mk, Nat.reduceAdd]
    have hld := run_en (x := s.L[i]) (vt := vt) (vd := vd) (vb := .slice Ab s.L[i].b.length cb) (cells_read (hO4.at_ 0 rfl))
    have hfl := flatB_take_le s.L i
    have hfl2 := flatB_take_le s.L (i + 1)
    have hfs := flatB_take_succ hi'
    refine ⟨fun hb => ?_, fun hb => ?_⟩
    · have hw : IntKind.i64.wrap (((flatB (s.L.take (min i s.st))).length : Nat) + (s.L[i].b.length : Nat) : Int) = ((flatB (s.L.take (min (i + 1) s.st))).length : Nat) := by
        rw [show min i s.st = i by omega, show min (i + 1) s.st = i + 1 by omega, hfs, List.length_append]
        rw [hfs, List.length_append] at hfl2
        rw [w64 (by omega) (by omega)]; omega
      rw [hw]
      unfold wal_Log_Force_k4
      simp only [e1, e2]
      rw [step_run hld, step_run (if_entry _ _)]
      refine st_newRow (row_if _ _) hU4 hO4 ?_
      intro g5 w5 hU5 hO5 hg5
      obtain ⟨inf, hi1, hz1, hsz1, hby⟩ := inf99
      refine st_append (h := ha) (F := (g5, .cells #[ifc (enV s.L[i] vt vd (.slice Ab s.L[i].b.length cb))] 99 (0, 0)) :: (g3, .cells (enV s.L[i] vt vd (.slice Ab s.L[i].b.length cb)).toArray 95 (0, 0)) :: H) (ys := [ifc (enV s.L[i] vt vd (.slice Ab s.L[i].b.length cb))]) (m := 1) u93 hi1 hz1 hsz1 hby rfl (by omega) hra ?_ hU5 (fun p hp => .inr (hfa p hp)) (rd_rowN (n := 1) (c := 1) (hO5.at_ 0 rfl) rfl (by omega) rfl) (fun y hy => by rw [List.mem_singleton] at hy; subst hy; rfl) (by unfold maxLen; omega) (by omega) ?_
      · refine hO5.perm ?_
        classical
        refine List.perm_iff_count.2 fun y => ?_
        simp only [List.count_cons, List.count_append, ifc]
        omega
      intro v6 w6 h6 hr6 hO6 hU6 hh6
      simp (disch := omega) only [PX, w64]
      refine ⟨⟨i + 1, v6, h6, by omega, rfl, rfl, rfl, ?_, hO6.sub (List.Sublist.append (List.Sublist.refl _) (.cons _ (.cons _ (List.Sublist.refl _)))), hU6, fun p hp => (hh6 p hp).resolve_left (by simp)⟩, ?_⟩
      · rw [List.take_add_one, hri, List.map_append]; exact hr6
      · simp only [List.getD_cons_succ, List.getD_cons_zero, intOf]; omega
    · rw [show min i s.st = min (i + 1) s.st by omega]
      unfold wal_Log_Force_k4
      simp only [e1, e2]
      rw [step_run hld, step_run (if_entry _ _)]
      refine st_newRow (row_if _ _) hU4 hO4 ?_
      intro g5 w5 hU5 hO5 hg5
      obtain ⟨inf, hi1, hz1, hsz1, hby⟩ := inf99
      refine st_append (h := ha) (F := (g5, .cells #[ifc (enV s.L[i] vt vd (.slice Ab s.L[i].b.length cb))] 99 (0, 0)) :: (g3, .cells (enV s.L[i] vt vd (.slice Ab s.L[i].b.length cb)).toArray 95 (0, 0)) :: H) (ys := [ifc (enV s.L[i] vt vd (.slice Ab s.L[i].b.length cb))]) (m := 1) u93 hi1 hz1 hsz1 hby rfl (by omega) hra ?_ hU5 (fun p hp => .inr (hfa p hp)) (rd_rowN (n := 1) (c := 1) (hO5.at_ 0 rfl) rfl (by omega) rfl) (fun y hy => by rw [List.mem_singleton] at hy; subst hy; rfl) (by unfold maxLen; omega) (by omega) ?_
      · refine hO5.perm ?_
        classical
        refine List.perm_iff_count.2 fun y => ?_
        simp only [List.count_cons, List.count_append, ifc]
        omega
      intro v6 w6 h6 hr6 hO6 hU6 hh6
      simp (disch := omega) only [PX, w64]
      refine ⟨⟨i + 1, v6, h6, by omega, rfl, rfl, rfl, ?_, hO6.sub (List.Sublist.append (List.Sublist.refl _) (.cons _ (.cons _ (List.Sublist.refl _)))), hU6, fun p hp => (hh6 p hp).resolve_left (by simp)⟩, ?_⟩
      · rw [List.take_add_one, hri, List.map_append]; exact hr6
      · simp only [List.getD_cons_succ, List.getD_cons_zero, intOf]; omega
  · obtain rfl : i = s.L.length := by omega
    have hrl : rows.length = s.L.length := hout.1
    rw [List.take_of_length_le (Nat.le_of_eq hrl)] at hra
    rw [show min s.L.length s.st = s.st by omega]
    unfold wal_Log_Force_k2
    rw [step_run (build_fill _), step_run (if_fill _ _)]
    refine st_newRow (row_if _ _) hU2 hO2 ?_
    intro g5 w5 hU5 hO5 hg5
    obtain ⟨inf, hi1, hz1, hsz1, hby⟩ := inf99
    refine st_append (h := ha) (F := (g5, .cells #[fillV] 99 (0, 0)) :: H) (ys := [fillV]) (m := 1) u93 hi1 hz1 hsz1 hby rfl (by omega) hra (hO5.perm List.perm_middle.symm) hU5 (fun p hp => .inr (hfa p hp)) (rd_rowN (n := 1) (c := 1) (hO5.at_ 0 rfl) rfl (by omega) rfl) (fun y hy => by rw [List.mem_singleton] at hy; subst hy; rfl) (by unfold maxLen; omega) (by omega) ?_
    intro v6 w6 h6 hr6 hO6 hU6 hh6
    have hO6 : Owns w6 (h6 ++ H) := hO6.sub (List.Sublist.append (List.Sublist.refl _) (List.sublist_cons_self _ _))
    obtain ⟨A6, c6, rfl⟩ := RowH.isSl hr6
    simp only [PX]
    refine st_loop (fun vs w' => ∃ (j : Nat) (vb : Value) (hb : List (Nat × Obj)), j ≤ s.L.length + 1 ∧ vs.getD 0 undef = vb ∧ vs.getD 1 undef = .int .i64 j ∧ RowH 5 1 vb (laidB s.L j).length (bytesV (laidB s.L j)) hb ∧ Owns w' (hb ++ (h6 ++ H)) ∧ Upd w w' [] ∧ ∀ p ∈ hb, w.heap.size ≤ p.1)
      (fun vs _ => s.L.length + 1 - (intOf (vs.getD 1 undef)).toNat) ⟨0, .slice none 0 0, [], by omega, rfl, rfl, by simpa [laidB, flatB, bytesV] using RowH.nil_ 5 1, hO6, hU6, fun p hp => by cases hp⟩ ?_
    rintro dv2 vs2 w7 - ⟨j, vb, hb, hj, f0, f1, hrb, hO7, hU7, hfb⟩
    have hl0' : ∀ j, (laidB s.L j).length ≤ 65536 + 64 := fun j => by
      unfold laidB
      split
      · have := flatB_take_le s.L j; omega
      · rw [padB_len]; unfold up64; omega
    have hlj := hl0' j
    have hOH7 : Owns w7 H := hO7.sub ((List.sublist_append_right _ _).trans (List.sublist_append_right _ _))
    have hsH7 : stands w7 H := stands.of hOH7
    obtain ⟨A6', c6', he6, -, -, hcell⟩ := hr6.rd (w := w7) (F := H) (hO7.sub (List.sublist_append_right _ _))
    injection he6 with he6 _ he6c
    subst he6 he6c
    simp (disch := first | assumption | omega) only [f0, f1, PX, BX]
    refine ⟨fun hlt => ?_, fun hge => ?_⟩
    · obtain ⟨a6, rfl, -⟩ := hcell s.L.length fillV (by rw [List.getElem?_append_right (by simp [hrl]), List.length_map, hrl, Nat.sub_self]; rfl)
      simp (disch := first | assumption | omega) only [PX, Nat.mul_one]
      by_cases hjn : j < s.L.length
      · obtain ⟨a, vt, vd, vb', rfl, hri, o1, o2, o3, hcs⟩ := hE j hjn
        obtain ⟨-, -, -, rb⟩ := hcs w7 (fun p hp => hsH7 p (by rw [← hH]; grind)) (fun p hp => hsH7 p (by rw [← hH]; grind))
        obtain ⟨a6', ha6, hcj⟩ := hcell j (ifc (enV s.L[j] vt vd vb')) (by rw [List.getElem?_append_left (by rw [List.length_map, hrl]; exact hjn), List.getElem?_map, hri]; rfl)
        injection ha6 with ha6
        subst ha6
        rw [step_run (run_sLoad (run_loadVar1 ag99 hcj))]
        unfold ifc
        rw [step_enter (inv_entry _ _ _)]
        have hbl : s.L[j].b.length ≤ 65536 := by
          have h1 := flatB_take_le s.L (j + 1)
          rw [flatB_take_succ hjn, List.length_append] at h1; omega
        refine CallsR.mono (entry_lay_spec hrb hO7 hU7 (fun p hp => .inr (hfb p hp)) rb (by omega)) ?_
        rintro u w8 ⟨h8, hr8, hO8, hU8, hh8⟩
        simp (disch := omega) only [PX, w64]
        refine ⟨⟨j + 1, u, h8, by omega, rfl, rfl, ?_, hO8, hU8, fun p hp => (hh8 p hp).resolve_left (by simp)⟩, ?_⟩
        · have : laidB s.L (j + 1) = laidB s.L j ++ s.L[j].b := by unfold laidB; rw [if_pos (by omega), if_pos (by omega), flatB_take_succ hjn]
          rw [this]; exact hr8
        · simp only [List.getD_cons_succ, List.getD_cons_zero, intOf]; omega
      · obtain rfl : j = s.L.length := by omega
        obtain ⟨a6', ha6, hcj⟩ := hcell s.L.length fillV (by rw [List.getElem?_append_right (by simp [hrl]), List.length_map, hrl, Nat.sub_self]; rfl)
        injection ha6 with ha6
        subst ha6
        rw [step_run (run_sLoad (run_loadVar1 ag99 hcj))]
        unfold fillV
        rw [step_enter (inv_fill _ _ _)]
        refine CallsR.mono (fill_lay_spec hrb hO7 hU7 (fun p hp => .inr (hfb p hp)) (by omega)) ?_
        rintro u w8 ⟨h8, hr8, hO8, hU8, hh8⟩
        simp (disch := omega) only [PX, w64]
        refine ⟨⟨s.L.length + 1, u, h8, by omega, rfl, rfl, ?_, hO8, hU8, fun p hp => (hh8 p hp).resolve_left (by simp)⟩, ?_⟩
        · have : laidB s.L (s.L.length + 1) = padB (laidB s.L s.L.length) := by unfold laidB; rw [if_neg (by omega), if_pos (Nat.le_refl _), List.take_length]
          rw [this]; exact hr8
        · simp only [List.getD_cons_succ, List.getD_cons_zero, intOf]; omega
    · obtain rfl : j = s.L.length + 1 := by omega
      have hlb : laidB s.L (s.L.length + 1) = padB (flatB s.L) := by unfold laidB; rw [if_neg (by omega)]
      rw [hlb] at hrb
      clear hl0' hlj
      unfold wal_Log_Force_k3
      have htl := flatB_take_le s.L s.st
      have hpl := padB_len (flatB s.L)
      have hpl2 : (flatB s.L).length ≤ (padB (flatB s.L)).length := by rw [hpl]; unfold up64; omega
      have hpl3 : (padB (flatB s.L)).length ≤ 65536 + 64 := by rw [hpl]; unfold up64; omega
      have hA1 : forceA s ≤ (padB (flatB s.L)).length := by unfold forceA; omega
      have hw1 : IntKind.i64.wrap (((flatB (s.L.take s.st)).length : Nat) - ((flatB (s.L.take s.st)).length : Int).tmod 64) = ((forceA s : Nat) : Int) := by
        unfold forceA
        rw [tmod64 (by omega), w64 (by omega) (by omega)]; omega
      have hw2 : IntKind.i64.wrap (64 + ((forceA s : Nat) : Int)) = ((64 + forceA s : Nat) : Int) := by rw [w64 (by omega) (by omega)]; omega
      simp (disch := first | assumption | omega) only [PX, hw1]
      have hO8 := hO7.ext (Upd.drew w7 [])
      have hU8 := hU.then_ (hU7.trans (Upd.drew w7 [])) (fun x hx => by cases hx)
      have hS8 : SS w7.drew := stands.of (hO8.sub ((List.sublist_append_right _ _).trans (List.sublist_append_right _ _)))
      have c0 : ∀ w', SS w' → w'.cell? ⟨g, 0, none⟩ = some dv := fun w' hs => (log_cells (hs _ hmg)).1
      have c1 : ∀ w', SS w' → w'.cell? ⟨g, 1, none⟩ = some (.int .i64 s.hand) := fun w' hs => (log_cells (hs _ hmg)).2.1
      refine st_draw SS hS8 ?_
      simp (disch := first | exact hne | assumption | omega) only [SX, SLX, BX, add_mk, Nat.reduceAdd, hw2]
      obtain ⟨Ab, cb, rfl, hcb, -⟩ := hrb.rd hO8
      have hrd := (hrb.rd hO8).drop (i := forceA s) hA1
      rw [Nat.mul_one, show (bytesV (padB (flatB s.L))).drop (forceA s) = bytesV (forceB s) by simp [bytesV, forceB, List.map_drop]] at hrd
      have hfl : (padB (flatB s.L)).length - forceA s = (forceB s).length := by unfold forceB; rw [List.length_drop]
      rw [stepS_run hne fun w' _ => run_sliceFrom (i := ((forceA s : Nat) : Int)) u51 sz5 (by omega) (by omega) hcb, show ((forceA s : Nat) : Int).toNat = forceA s by omega, hfl]
      rw [hfl] at hrd
      have hP : Owns w7.drew (hd ++ (hb ++ (h6 ++ ((g, logO dv s (.slice A s.L.length c)) :: (ho ++ hk) ++ F)))) := by
        rw [← hH] at hO8
        refine hO8.perm ?_
        classical
        refine List.perm_iff_count.2 fun y => ?_
        simp only [List.count_cons, List.count_append]
        omega
      refine st_call (Start_spec ok hd' hP hU8 hh2 (by simpa using hrd) (by omega) s.hand ((64 + forceA s : Nat) : Int) ⟨by omega, by omega⟩) ?_
      rintro _ w9 ⟨rfl, hU9, hd2, hd2', hO9, hh9⟩
      refine st_keepT (fun _ => True) trivial ?_
      have hT : ∃ w' : World, (fun _ => True) w' := ⟨w9, trivial⟩
      simp (disch := first | exact hT | omega) only [SX, BX]
      have hO9 : Owns w9 ((g, logO dv s (.slice A s.L.length c)) :: ((ho ++ hk) ++ (hd2 ++ F))) := by
        refine (hO9.sub (List.Sublist.append (List.Sublist.refl hd2) ((List.sublist_append_right _ _).trans (List.sublist_append_right _ _)))).perm ?_
        classical
        refine List.perm_iff_count.2 fun y => ?_
        simp only [List.count_cons, List.count_append]
        omega
      refine ⟨fun hne0 => ?_, fun he0 => ?_⟩
      · change (forceS d s).2 ≠ 0 at hne0
        rw [hyes, if_pos hne0]
        exact ⟨rfl, hU9, _, hd2, hl0, hd2', hO9, hh, hh9⟩
      · change ¬ (forceS d s).2 ≠ 0 at he0
        rw [hyes, if_neg he0]
        have hgW := hh _ (List.mem_cons_self ..)
        have hO10 := hO9.ext (Upd.drew w9 [])
        have hU10 := hU9.then_ (Upd.drew w9 []) (fun x hx => by cases hx)
        let S4 : World → Prop := fun w' => w'.cell? ⟨g, 2, none⟩ = some (.slice A s.L.length c) ∧ w'.cell? ⟨g, 3, none⟩ = some (.int .i64 (s.size : Nat))
        have mkS : ∀ {w' : World} {s' : Lg} {R : List (Nat × Obj)}, s'.size = s.size → Owns w' ((g, logO dv s' (.slice A s.L.length c)) :: R) → S4 w' := fun e ho => by
          have := log_cells (ho.at_ 0 rfl)
          exact ⟨this.2.2.1, by rw [← e]; exact this.2.2.2.1⟩
        have hS10 : S4 w9.drew := mkS rfl hO10
        have hne4 : ∃ w', S4 w' := ⟨_, hS10⟩
        have f2 : ∀ w', S4 w' → w'.cell? ⟨g, 2, none⟩ = some (.slice A s.L.length c) := fun w' hs => hs.1
        have f3 : ∀ w', S4 w' → w'.cell? ⟨g, 3, none⟩ = some (.int .i64 (s.size : Nat)) := fun w' hs => hs.2
        refine st_draw S4 hS10 ?_
        simp (disch := first | exact hne4 | assumption | omega) only [SX, SLX, add_mk, Nat.reduceAdd]
        refine st_storeB sz3 rfl hU10 hO10 0 rfl (by simp) (.inr (Nat.zero_le _)) hgW ?_
        intro w11 hU11 hO11
        have hO11 : Owns w11 ((g, logO dv { s with fl := s.L.length } (.slice A s.L.length c)) :: ((ho ++ hk) ++ (hd2 ++ F))) := hO11
        refine st_same (mkS (s' := { s with fl := s.L.length }) rfl hO11) ?_
        simp (disch := first | exact hne4 | assumption | omega) only [SX, SLX, add_mk, Nat.reduceAdd]
        refine st_storeB sz3 rfl hU11 hO11 0 rfl (by simp) (.inr (Nat.zero_le _)) hgW ?_
        intro w12 hU12 hO12
        have hO12 : Owns w12 ((g, logO dv { s with fl := s.L.length, mkd := s.size } (.slice A s.L.length c)) :: ((ho ++ hk) ++ (hd2 ++ F))) := hO12
        refine st_same (mkS (s' := { s with fl := s.L.length, mkd := s.size }) rfl hO12) ?_
        simp (disch := first | exact hne4 | assumption | omega) only [SX, SLX, add_mk, Nat.reduceAdd]
        refine st_storeB sz4 rfl hU12 hO12 0 rfl (by simp) (.inr (Nat.zero_le _)) hgW ?_
        intro w13 hU13 hO13
        refine st_keepT (fun _ => True) trivial ?_
        exact ⟨trivial, hU13, (g, logO dv { s with fl := s.L.length, mkd := s.size, tw := false } (.slice A s.L.length c)) :: (ho ++ hk), hd2, ⟨g, _, rows, ho, hk, rfl, rfl, hrow, hout⟩, hd2', hO13, fun p hp => by
          rcases List.mem_cons.1 hp with rfl | hp
          · exact hgW
          · exact hh p (List.mem_cons_of_mem _ hp), hh9⟩
end Go.Proofs.Ytplpjikcgheiiaa.Wal

/- Logs: Done. -/
namespace Go.Proofs.Ytplpjikcgheiiaa.Wal
open Go Go.Proofs.Ytplpjikcgheiiaa Go.Proofs.Ytplpjikcgheiiaa.Rec Xf Go.RowKit
open Go.Proofs.Ytplpjikcgheiiaa.Enc (leB leB_len)
set_option linter.unusedVariables false
set_option linter.unusedSimpArgs false
set_option maxRecDepth 100000

def markB (n : Nat) : List UInt8 := padB (sealB (leB n 4))
theorem markB_len (n : Nat) : (markB n).length = 64 := by
  unfold markB
  rw [padB_len, sealB_len, leB_len]; rfl
def doneL (d : Dv) (s : Lg) : Dv × Lg × Int :=
  if s.fl = 0 then (d, s, 8)
  else if s.tw then ((endD d s.hand (-1)).1, { s with st := s.fl, fl := 0 }, 0)
  else ((startD (endD d s.hand (-1)).1 s.hand 0 (markB s.mkd)).1, { s with tw := decide ((startD (endD d s.hand (-1)).1 s.hand 0 (markB s.mkd)).2 = 0) }, 0)

theorem Done_log_spec {w W : World} {ks : List Nat} {d : Dv} {dv v : Value} {s : Lg} {h hd F : List (Nat × Obj)} (ok : DvOk d) (hl : LogH dv s v h) (hd' : DevH d dv hd) (hO : Owns w (h ++ (hd ++ F))) (hU : Upd W w ks) (hh : ∀ p ∈ h, p.1 ∈ ks ∨ W.heap.size ≤ p.1) (hh2 : ∀ p ∈ hd, p.1 ∈ ks ∨ W.heap.size ≤ p.1) (fit : LgFit d.B.length s) :
    CallsR Try.prog 14 #[v] w fun u w' => u = .int .i64 (doneL d s).2.2 ∧ Upd W w' ks ∧ ∃ h' hd2, LogH dv (doneL d s).2.1 v h' ∧ DevH (doneL d s).1 dv hd2 ∧ Owns w' (h' ++ (hd2 ++ F)) ∧ (∀ p ∈ h', p.1 ∈ ks ∨ W.heap.size ≤ p.1) ∧ ∀ p ∈ hd2, p.1 ∈ ks ∨ W.heap.size ≤ p.1 := by
  have hl0 := hl
  obtain ⟨g, x, rows, ho, hk, rfl, rfl, hrow, hout⟩ := hl
  have hlen := fit.len
  have hmk := fit.mkd
  have hgW := hh _ (List.mem_cons_self ..)
  apply wal_Log_Done_sound
  unfold wal_Log_Done_x
  obtain ⟨c0, c1, c2, c3, c4, c5, c6, c7, c8⟩ := log_cells (hO.at_ 0 rfl)
  simp (disch := first | assumption | omega) only [PX, BX, LX, add_mk, Nat.reduceAdd]
  refine ⟨fun h0 => ?_, fun h0 => ?_⟩
  · have : doneL d s = (d, s, 8) := by unfold doneL; rw [if_pos (by omega)]
    rw [this]
    exact ⟨rfl, hU, _, _, hl0, hd', hO, hh, hh2⟩
  let S3 : World → Prop := fun w' => w'.heap[g]? = some (logO dv s x)
  have e0 : ∀ w', S3 w' → w'.cell? ⟨g, 0, none⟩ = some dv := fun w' hs => (log_cells hs).1
  have e1 : ∀ w', S3 w' → w'.cell? ⟨g, 1, none⟩ = some (.int .i64 s.hand) := fun w' hs => (log_cells hs).2.1
  have hO1 := hO.ext (Upd.drew w [])
  have hU1 := hU.then_ (Upd.drew w []) (fun x hx => by cases hx)
  have hne3 : ∃ w', S3 w' := ⟨w.drew, hO1.at_ 0 rfl⟩
  refine st_draw S3 (hO1.at_ 0 rfl) ?_
  simp (disch := first | exact hne3 | assumption | omega) only [SX, SLX, add_mk, Nat.reduceAdd]
  have hP1 : Owns w.drew (hd ++ ((g, logO dv s x) :: (ho ++ hk) ++ F)) := by
    refine hO1.perm ?_
    classical
    refine List.perm_iff_count.2 fun y => ?_
    simp only [List.count_cons, List.count_append]
    omega
  refine st_call (Finish_spec ok hd' hP1 hU1 hh2 s.hand) ?_
  rintro _ w2 ⟨rfl, hU2, hd2, hd2', hO2, hh3⟩
  refine st_keepT (fun _ => True) trivial ?_
  have hO2 : Owns w2 ((g, logO dv s x) :: ((ho ++ hk) ++ (hd2 ++ F))) := by
    refine hO2.perm ?_
    classical
    refine List.perm_iff_count.2 fun y => ?_
    simp only [List.count_cons, List.count_append]
    omega
  clear c0 c1 c2 c3 c4 c5 c6 c7 c8
  obtain ⟨c0, c1, c2, c3, c4, c5, c6, c7, c8⟩ := log_cells (hO2.at_ 0 rfl)
  simp (disch := first | assumption | omega) only [PX, LX, add_mk, Nat.reduceAdd]
  simp only [BX]
  by_cases htw : s.tw = true
  · have hyes : doneL d s = ((endD d s.hand (-1)).1, { s with st := s.fl, fl := 0 }, 0) := by unfold doneL; rw [if_neg (by omega), if_pos htw]
    rw [htw]
    simp (disch := first | assumption | omega) only [BX, PX, LX, add_mk, Nat.reduceAdd]
    refine st_storeB sz3 rfl hU2 hO2 0 rfl (by simp) (.inr (Nat.zero_le _)) hgW ?_
    intro w3 hU3 hO3
    have hO3 : Owns w3 ((g, logO dv { s with st := s.fl } x) :: ((ho ++ hk) ++ (hd2 ++ F))) := hO3
    refine st_storeB sz3 rfl hU3 hO3 0 rfl (by simp) (.inr (Nat.zero_le _)) hgW ?_
    intro w4 hU4 hO4
    rw [hyes]
    refine ⟨rfl, hU4, (g, logO dv { s with st := s.fl, fl := 0 } x) :: (ho ++ hk), hd2, ⟨g, x, rows, ho, hk, rfl, rfl, hrow, hout⟩, hd2', hO4, fun p hp => ?_, hh3⟩
    rcases List.mem_cons.1 hp with rfl | hp
    · exact hgW
    · exact hh p (List.mem_cons_of_mem _ hp)
  · have hno : doneL d s = ((startD (endD d s.hand (-1)).1 s.hand 0 (markB s.mkd)).1, { s with tw := decide ((startD (endD d s.hand (-1)).1 s.hand 0 (markB s.mkd)).2 = 0) }, 0) := by unfold doneL; rw [if_neg (by omega), if_neg htw]
    rw [Bool.not_eq_true] at htw
    rw [htw]
    simp (disch := first | assumption | omega) only [BX]
    refine st_call (Enc.New_spec w2) ?_
    rintro _ w3 ⟨gw, rfl, hW⟩
    have hO3 := hO2.ext hW.mid
    have hU3 := hU2.then_ hW.mid (fun x hx => by cases hx)
    clear c0 c1 c2 c3 c4 c5 c6 c7 c8
    obtain ⟨c0, c1, c2, c3, c4, c5, c6, c7, c8⟩ := log_cells (hO3.at_ 0 rfl)
    simp (disch := first | assumption | omega) only [PX, LX, add_mk, Nat.reduceAdd, Enc.wrapU32]
    rw [Nat.mod_eq_of_lt (by omega)]
    refine st_call (Enc.Four_spec s.mkd (by simp only [List.length_nil]; omega) (by omega) hW) ?_
    intro _ w4' hW4
    have hO4 := (hO2.ext hW4.mid).ext (Upd.drew w4' [])
    have hU4 := (hU2.then_ hW4.mid (fun x hx => by cases hx)).then_ (Upd.drew w4' []) (fun x hx => by cases hx)
    have hW4 := hW4.ext (Upd.drew w4' [])
    have sS : ∀ {w' : World} {R : List (Nat × Obj)}, Owns w' ((g, logO dv s x) :: R) → S3 w' := fun ho => ho.at_ 0 rfl
    refine st_draw S3 (sS hO4) ?_
    simp (disch := first | exact hne3 | assumption | omega) only [SX, SLX, add_mk, Nat.reduceAdd]
    unfold wal_Log_Done_k1
    refine ⟨?_, ?_⟩
    · rw [step_run (build_fill _)]
      refine st_same (sS hO4) ?_
      refine st_call (Enc.Done_spec (by simp only [List.length_append, List.length_nil, leB_len]; omega) hW4) ?_
      intro vx wx hX
      rw [List.nil_append] at hX
      have hX : Enc.NewB _ wx vx (leB s.mkd 4) := hX
      have hO5 := hO4.ext (NewB.upd hX)
      have hU5 := hU4.then_ (NewB.upd hX) (fun x hx => by cases hx)
      have hxr : Rd wx 1 vx (leB s.mkd 4).length (bytesV (leB s.mkd 4)) := NewB.rd hX
      refine st_same (sS hO5) ?_
      refine st_call (Crc.Seal_spec _ vx (leB s.mkd 4) (by rw [leB_len]; omega) hxr) ?_
      intro vy wy hY
      have hY : Enc.NewB _ wy vy (sealB (leB s.mkd 4)) := NewB.ofC hY
      have hO6 := hO5.ext (NewB.upd hY)
      have hU6 := hU5.then_ (NewB.upd hY) (fun x hx => by cases hx)
      refine st_same (sS hO6) ?_
      obtain ⟨hy, y1, y2, y3, y4⟩ := hY
      have hO7 := Enc.owns_app hO5 y3 y2 y4
      refine st_call (fill_lay_spec (W := W) (ks := ks) y1 hO7 hU6 (fun p hp => .inr (Nat.le_trans hU5.size (y4 p hp))) (by rw [sealB_len, leB_len]; omega)) ?_
      rintro vz wz ⟨hz, z1, z2, z3, z4⟩
      refine st_same (sS (z2.sub (List.sublist_append_right _ _))) ?_
      obtain ⟨Az, cz, rfl⟩ := RowH.isSl z1
      have hzr := z1.rd z2
      have hP : Owns wz (hd2 ++ (hz ++ ((g, logO dv s x) :: (ho ++ hk) ++ F))) := by
        refine z2.perm ?_
        classical
        refine List.perm_iff_count.2 fun y => ?_
        simp only [List.count_cons, List.count_append]
        omega
      refine st_call (Start_spec (ok.end_ s.hand (-1)) hd2' hP z3 hh3 hzr (by show (markB s.mkd).length ≤ _; rw [markB_len]; omega) s.hand 0 ⟨by omega, by omega⟩) ?_
      rintro _ w9 ⟨rfl, hU9, hd3, hd3', hO9, hh9⟩
      have hO9 : Owns w9 ((g, logO dv s x) :: ((ho ++ hk) ++ (hd3 ++ F))) := by
        refine (hO9.sub (List.Sublist.append (List.Sublist.refl hd3) (List.sublist_append_right _ _))).perm ?_
        classical
        refine List.perm_iff_count.2 fun y => ?_
        simp only [List.count_cons, List.count_append]
        omega
      refine st_same (hO9.at_ 0 rfl) ?_
      simp (disch := first | exact hne3 | assumption | omega) only [SX, SLX, add_mk, Nat.reduceAdd]
      refine st_storeB sz4 rfl hU9 hO9 0 rfl (by simp) (.inr (Nat.zero_le _)) hgW ?_
      intro w11 hU11 hO11
      refine st_keepT (fun _ => True) trivial ?_
      rw [hno]
      refine ⟨rfl, hU11, (g, logO dv { s with tw := decide ((startD (endD d s.hand (-1)).1 s.hand 0 (markB s.mkd)).2 = 0) } x) :: (ho ++ hk), hd3, ⟨g, x, rows, ho, hk, rfl, rfl, hrow, hout⟩, hd3', hO11, fun p hp => ?_, hh9⟩
      rcases List.mem_cons.1 hp with rfl | hp
      · exact hgW
      · exact hh p (List.mem_cons_of_mem _ hp)
    · refine st_call (Enc.Done_spec (by simp only [List.length_append, List.length_nil, leB_len]; omega) hW4) ?_
      intro vx wx hX
      rw [List.nil_append] at hX
      have hX : Enc.NewB _ wx vx (leB s.mkd 4) := hX
      have hO5 := hO4.ext (NewB.upd hX)
      have hU5 := hU4.then_ (NewB.upd hX) (fun x hx => by cases hx)
      have hxr : Rd wx 1 vx (leB s.mkd 4).length (bytesV (leB s.mkd 4)) := NewB.rd hX
      refine st_same (sS hO5) ?_
      refine ⟨?_, ?_⟩
      · rw [step_run (build_fill _)]
        refine st_same (sS hO5) ?_
        refine st_call (Crc.Seal_spec _ vx (leB s.mkd 4) (by rw [leB_len]; omega) hxr) ?_
        intro vy wy hY
        have hY : Enc.NewB _ wy vy (sealB (leB s.mkd 4)) := NewB.ofC hY
        have hO6 := hO5.ext (NewB.upd hY)
        have hU6 := hU5.then_ (NewB.upd hY) (fun x hx => by cases hx)
        refine st_same (sS hO6) ?_
        obtain ⟨hy, y1, y2, y3, y4⟩ := hY
        have hO7 := Enc.owns_app hO5 y3 y2 y4
        refine st_call (fill_lay_spec (W := W) (ks := ks) y1 hO7 hU6 (fun p hp => .inr (Nat.le_trans hU5.size (y4 p hp))) (by rw [sealB_len, leB_len]; omega)) ?_
        rintro vz wz ⟨hz, z1, z2, z3, z4⟩
        refine st_same (sS (z2.sub (List.sublist_append_right _ _))) ?_
        obtain ⟨Az, cz, rfl⟩ := RowH.isSl z1
        have hzr := z1.rd z2
        have hP : Owns wz (hd2 ++ (hz ++ ((g, logO dv s x) :: (ho ++ hk) ++ F))) := by
          refine z2.perm ?_
          classical
          refine List.perm_iff_count.2 fun y => ?_
          simp only [List.count_cons, List.count_append]
          omega
        refine st_call (Start_spec (ok.end_ s.hand (-1)) hd2' hP z3 hh3 hzr (by show (markB s.mkd).length ≤ _; rw [markB_len]; omega) s.hand 0 ⟨by omega, by omega⟩) ?_
        rintro _ w9 ⟨rfl, hU9, hd3, hd3', hO9, hh9⟩
        have hO9 : Owns w9 ((g, logO dv s x) :: ((ho ++ hk) ++ (hd3 ++ F))) := by
          refine (hO9.sub (List.Sublist.append (List.Sublist.refl hd3) (List.sublist_append_right _ _))).perm ?_
          classical
          refine List.perm_iff_count.2 fun y => ?_
          simp only [List.count_cons, List.count_append]
          omega
        refine st_same (hO9.at_ 0 rfl) ?_
        simp (disch := first | exact hne3 | assumption | omega) only [SX, SLX, add_mk, Nat.reduceAdd]
        refine st_storeB sz4 rfl hU9 hO9 0 rfl (by simp) (.inr (Nat.zero_le _)) hgW ?_
        intro w11 hU11 hO11
        refine st_keepT (fun _ => True) trivial ?_
        rw [hno]
        refine ⟨rfl, hU11, (g, logO dv { s with tw := decide ((startD (endD d s.hand (-1)).1 s.hand 0 (markB s.mkd)).2 = 0) } x) :: (ho ++ hk), hd3, ⟨g, x, rows, ho, hk, rfl, rfl, hrow, hout⟩, hd3', hO11, fun p hp => ?_, hh9⟩
        rcases List.mem_cons.1 hp with rfl | hp
        · exact hgW
        · exact hh p (List.mem_cons_of_mem _ hp)
      · refine st_call (Crc.Seal_spec _ vx (leB s.mkd 4) (by rw [leB_len]; omega) hxr) ?_
        intro vy wy hY
        have hY : Enc.NewB _ wy vy (sealB (leB s.mkd 4)) := NewB.ofC hY
        have hO6 := hO5.ext (NewB.upd hY)
        have hU6 := hU5.then_ (NewB.upd hY) (fun x hx => by cases hx)
        refine st_same (sS hO6) ?_
        rw [step_run (build_fill _)]
        refine st_same (sS hO6) ?_
        obtain ⟨hy, y1, y2, y3, y4⟩ := hY
        have hO7 := Enc.owns_app hO5 y3 y2 y4
        refine st_call (fill_lay_spec (W := W) (ks := ks) y1 hO7 hU6 (fun p hp => .inr (Nat.le_trans hU5.size (y4 p hp))) (by rw [sealB_len, leB_len]; omega)) ?_
        rintro vz wz ⟨hz, z1, z2, z3, z4⟩
        refine st_same (sS (z2.sub (List.sublist_append_right _ _))) ?_
        obtain ⟨Az, cz, rfl⟩ := RowH.isSl z1
        have hzr := z1.rd z2
        have hP : Owns wz (hd2 ++ (hz ++ ((g, logO dv s x) :: (ho ++ hk) ++ F))) := by
          refine z2.perm ?_
          classical
          refine List.perm_iff_count.2 fun y => ?_
          simp only [List.count_cons, List.count_append]
          omega
        refine st_call (Start_spec (ok.end_ s.hand (-1)) hd2' hP z3 hh3 hzr (by show (markB s.mkd).length ≤ _; rw [markB_len]; omega) s.hand 0 ⟨by omega, by omega⟩) ?_
        rintro _ w9 ⟨rfl, hU9, hd3, hd3', hO9, hh9⟩
        have hO9 : Owns w9 ((g, logO dv s x) :: ((ho ++ hk) ++ (hd3 ++ F))) := by
          refine (hO9.sub (List.Sublist.append (List.Sublist.refl hd3) (List.sublist_append_right _ _))).perm ?_
          classical
          refine List.perm_iff_count.2 fun y => ?_
          simp only [List.count_cons, List.count_append]
          omega
        refine st_same (hO9.at_ 0 rfl) ?_
        simp (disch := first | exact hne3 | assumption | omega) only [SX, SLX, add_mk, Nat.reduceAdd]
        refine st_storeB sz4 rfl hU9 hO9 0 rfl (by simp) (.inr (Nat.zero_le _)) hgW ?_
        intro w11 hU11 hO11
        refine st_keepT (fun _ => True) trivial ?_
        rw [hno]
        refine ⟨rfl, hU11, (g, logO dv { s with tw := decide ((startD (endD d s.hand (-1)).1 s.hand 0 (markB s.mkd)).2 = 0) } x) :: (ho ++ hk), hd3, ⟨g, x, rows, ho, hk, rfl, rfl, hrow, hout⟩, hd3', hO11, fun p hp => ?_, hh9⟩
        rcases List.mem_cons.1 hp with rfl | hp
        · exact hgW
        · exact hh p (List.mem_cons_of_mem _ hp)
end Go.Proofs.Ytplpjikcgheiiaa.Wal

/- Logs, plainly: what a scan of frames tells; what a mark tells. -/
namespace Go.Proofs.Ytplpjikcgheiiaa.Wal
open Go Go.Proofs.Ytplpjikcgheiiaa Go.Proofs.Ytplpjikcgheiiaa.Rec Xf Go.RowKit
open Go.Proofs.Ytplpjikcgheiiaa.Enc (leB leB_len leVal leVal_leB)
set_option linter.unusedVariables false
set_option linter.unusedSimpArgs false
set_option maxRecDepth 100000

/-- entries that were laid -/
structure Can (L : List En) : Prop where
  ok : ∀ x ∈ L, okP x.r
  fr : ∀ x ∈ L, x.b = frB x.r
  up : L.Pairwise fun a b => a.r.lsn < b.r.lsn
theorem Can.nil : Can [] := ⟨(fun x hx => by cases hx), (fun x hx => by cases hx), List.Pairwise.nil⟩
theorem Can.take {L : List En} (h : Can L) (n : Nat) : Can (L.take n) :=
  ⟨fun x hx => h.ok x (List.mem_of_mem_take hx), fun x hx => h.fr x (List.mem_of_mem_take hx), h.up.sublist (List.take_sublist _ _)⟩
theorem lastL_snoc (L : List En) (x : En) : lastL (L ++ [x]) = x.r.lsn := by unfold lastL; simp
theorem le_lastL {L : List En} (h : L.Pairwise fun a b => a.r.lsn < b.r.lsn) : ∀ x ∈ L, x.r.lsn ≤ lastL L := by
  intro x hx
  rcases List.eq_nil_or_concat L with rfl | ⟨l, z, rfl⟩
  · cases hx
  rw [List.concat_eq_append] at hx h ⊢
  rw [lastL_snoc]
  rcases List.mem_append.1 hx with hx | hx
  · exact Nat.le_of_lt ((List.pairwise_append.1 h).2.2 x hx z (List.mem_singleton.2 rfl))
  · rw [List.mem_singleton] at hx; subst hx; exact Nat.le_refl _
theorem Can.snoc {L : List En} {r : Re} (h : Can L) (hr : okP r) (hl : lastL L < r.lsn) : Can (L ++ [⟨r, frB r⟩]) := by
  refine ⟨fun x hx => ?_, fun x hx => ?_, List.pairwise_append.2 ⟨h.up, List.pairwise_singleton _ _, fun a ha b hb => ?_⟩⟩
  · rcases List.mem_append.1 hx with hx | hx
    · exact h.ok x hx
    · rw [List.mem_singleton] at hx; subst hx; exact hr
  · rcases List.mem_append.1 hx with hx | hx
    · exact h.fr x hx
    · rw [List.mem_singleton] at hx; subst hx; rfl
  · rw [List.mem_singleton] at hb; subst hb; exact Nat.lt_of_le_of_lt (le_lastL h.up a ha) hl
theorem flatB_split (L : List En) (i : Nat) : flatB L = flatB (L.take i) ++ flatB (L.drop i) := by unfold flatB; rw [← List.flatMap_append, List.take_append_drop]
theorem flatB_drop (L : List En) (i : Nat) : (flatB L).drop (flatB (L.take i)).length = flatB (L.drop i) := by
  rw [flatB_split L i, List.drop_append_of_le_length (Nat.le_refl _), List.drop_length, List.nil_append]
theorem Can.six {L : List En} (h : ∀ x ∈ L, x.b = frB x.r) : L.length * 6 ≤ (flatB L).length := by
  induction L with
  | nil => simp
  | cons x L ih =>
    have h1 := ih fun y hy => h y (List.mem_cons_of_mem _ hy)
    have h2 := h x (List.mem_cons_self ..)
    have h3 := frB_len6 x.r
    have : flatB (x :: L) = x.b ++ flatB L := rfl
    rw [this, List.length_append, List.length_cons, h2]; omega
theorem unfR_nil : (unfR []).2.2 ≠ 0 := by unfold unfR; rw [if_pos (by simp)]; decide
theorem scanW_can {L : List En} (can : Can L) : ∀ (k i : Nat), i ≤ L.length → L.length < k + i → scanW (flatB L) k (L.take i, (flatB (L.take i)).length) = (L, (flatB L).length)
  | 0, i, hi, hk => by omega
  | k + 1, i, hi, hk => by
    show (match nextS (flatB L) (L.take i, (flatB (L.take i)).length) with | none => _ | some s' => scanW (flatB L) k s') = _
    by_cases hl : i = L.length
    · subst hl
      have : nextS (flatB L) (L.take L.length, (flatB (L.take L.length)).length) = none := by
        unfold nextS
        rw [if_pos]
        simp only
        rw [flatB_drop, List.drop_length]
        exact unfR_nil
      rw [this, List.take_length]
    · have hi' : i < L.length := by omega
      have hd : (flatB L).drop (flatB (L.take i)).length = frB L[i].r ++ flatB (L.drop (i + 1)) := by
        rw [flatB_drop, List.drop_eq_getElem_cons hi']
        show L[i].b ++ flatB (L.drop (i + 1)) = _
        rw [can.fr _ (List.getElem_mem hi')]
      have hu := unfR_back (can.ok _ (List.getElem_mem hi')) (flatB (L.drop (i + 1)))
      have : nextS (flatB L) (L.take i, (flatB (L.take i)).length) = some (L.take (i + 1), (flatB (L.take (i + 1))).length) := by
        unfold nextS
        simp only
        rw [hd, hu, if_neg (by simp), if_neg]
        · have e1 : (frB L[i].r ++ flatB (L.drop (i + 1))).take (frB L[i].r).length = L[i].b := by rw [List.take_left', can.fr _ (List.getElem_mem hi')]; rfl
          simp only [e1]
          rw [flatB_take_succ hi', List.length_append, can.fr _ (List.getElem_mem hi'), List.take_succ_eq_append_getElem hi']
          congr 3
          rw [← can.fr _ (List.getElem_mem hi')]
        · rintro ⟨h1, h2⟩
          simp only at h2
          have h3 : lastL (L.take i) < L[i].r.lsn := by
            have h0 : 0 < i := by
              rcases Nat.eq_zero_or_pos i with rfl | h
              · exact absurd rfl h1
              · exact h
            have : L.take i = L.take (i - 1) ++ [L[i - 1]'(by omega)] := by
              have := List.take_succ_eq_append_getElem (l := L) (i := i - 1) (by omega)
              rwa [show i - 1 + 1 = i by omega] at this
            rw [this, lastL_snoc]
            exact List.pairwise_iff_getElem.1 can.up (i - 1) i (by omega) hi' (by omega)
          omega
      rw [this]
      exact scanW_can can k (i + 1) (by omega) (by omega)
theorem scanB_can {L : List En} (can : Can L) : scanB (flatB L) = (L, (flatB L).length) := by
  have h := scanW_can can ((flatB L).length + 1) 0 (Nat.zero_le _) (by have := Can.six can.fr; omega)
  exact h

theorem toldB_cong {B C : List UInt8} (h : B.take 8 = C.take 8) (hl : B.length = C.length) : toldB B = toldB C := by
  unfold toldB
  rw [h, hl]
theorem toldB_mark {n : Nat} {B : List UInt8} (h : B.take 8 = sealB (leB n 4)) (hn : n + 64 ≤ B.length) (h32 : n < 4294967296) : toldB B = n := by
  unfold toldB
  rw [if_neg (by omega), h, openL_seal]
  have : leVal ((leB n 4).take 4) = n := by
    rw [List.take_of_length_le (by rw [leB_len]; omega), leVal_leB]
    exact Nat.mod_eq_of_lt (by simpa using h32)
  simp only [this]
  rw [if_neg (by simp), if_neg (by omega)]
theorem toldB_zero (n : Nat) : toldB (List.replicate n 0) = 0 := by
  unfold toldB
  rw [List.take_replicate]
  split
  · rfl
  · rename_i h
    split
    · rfl
    · have hv : leVal ((Crc.openL (List.replicate (min 8 n) 0)).1.take 4) = 0 := by
        unfold Crc.openL
        rw [List.length_replicate, List.take_replicate]
        split
        · rfl
        · split
          · simp only; rw [List.take_replicate]
            have : min 8 n = 8 := by simp at h; omega
            rw [this]; rfl
          · rfl
      rw [hv]
      split <;> rfl
end Go.Proofs.Ytplpjikcgheiiaa.Wal

/- Logs, plainly: what holds of a log and its device, whatever is done. -/
namespace Go.Proofs.Ytplpjikcgheiiaa.Wal
open Go Go.Proofs.Ytplpjikcgheiiaa Go.Proofs.Ytplpjikcgheiiaa.Rec Xf Go.RowKit
open Go.Proofs.Ytplpjikcgheiiaa.Enc (leB leB_len leVal leVal_leB)
set_option linter.unusedVariables false
set_option linter.unusedSimpArgs false
set_option maxRecDepth 100000

def upOf (d : Dv) (hand : Int) : Wr := d.up.getD hand.toNat none
/-- the body of a device begins with these bytes -/
def Body (B P : List UInt8) : Prop := 64 + P.length ≤ B.length ∧ ∀ i, i < P.length → B[64 + i]? = P[i]?
theorem Body.take {B P : List UInt8} (h : Body B P) : (B.drop 64).take P.length = P := by
  apply List.ext_getElem?
  intro i
  have h1 := h.1
  rw [List.getElem?_take, List.getElem?_drop]
  split
  · exact h.2 i (by assumption)
  · rw [List.getElem?_eq_none (by omega)]
structure Inv (d : Dv) (s : Lg) : Prop where
  dok : DvOk d
  fit : LgFit d.B.length s
  can : Can s.L
  told : toldB d.B = (flatB (s.L.take s.st)).length
  body : Body d.B (flatB (s.L.take s.st))
  stfl : s.fl ≠ 0 → s.st ≤ s.fl
  idle : s.fl = 0 → upOf d s.hand = none
  mkd : s.fl ≠ 0 → s.mkd = (flatB (s.L.take s.fl)).length
  recs : s.fl ≠ 0 → s.tw = false → upOf d s.hand = some (64 + forceA s, (padB (flatB (s.L.take s.fl))).drop (forceA s))
  mark : s.fl ≠ 0 → s.tw = true → upOf d s.hand = some (0, markB s.mkd) ∧ Body d.B (flatB (s.L.take s.fl))

theorem putB_get {B b : List UInt8} {a k i : Nat} (h : a + k ≤ B.length) (hk : k ≤ b.length) : (putB B a b k)[i]? = if i < a then B[i]? else if i < a + k then b[i - a]? else B[i]? := by
  unfold putB
  have h1 : (B.take a).length = a := by rw [List.length_take]; omega
  have h2 : (b.take k).length = k := by rw [List.length_take]; omega
  by_cases hi : i < a
  · rw [if_pos hi, List.append_assoc, List.getElem?_append_left (by omega), List.getElem?_take, if_pos hi]
  · rw [if_neg hi]
    by_cases hj : i < a + k
    · rw [if_pos hj, List.append_assoc, List.getElem?_append_right (by omega), h1, List.getElem?_append_left (by omega), List.getElem?_take, if_pos (by omega)]
    · rw [if_neg hj, List.getElem?_append_right (by rw [List.length_append]; omega), List.length_append, h1, h2, List.getElem?_drop]
      congr 1; omega
theorem padB_get {l : List UInt8} {i : Nat} (h : i < l.length) : (padB l)[i]? = l[i]? := by unfold padB; rw [List.getElem?_append_left h]
theorem flatB_take_take (L : List En) {i j : Nat} (h : i ≤ j) : (flatB (L.take i)).length ≤ (flatB (L.take j)).length := by
  have := flatB_take_le (L.take j) i
  rwa [List.take_take, Nat.min_eq_left h] at this
theorem flatB_pre (L : List En) {i j k : Nat} (h : i ≤ j) (hk : k < (flatB (L.take i)).length) : (flatB (L.take j))[k]? = (flatB (L.take i))[k]? := by
  have := flatB_split (L.take j) i
  rw [List.take_take, Nat.min_eq_left h] at this
  rw [this, List.getElem?_append_left hk]
theorem take_snoc {α : Type} (L : List α) (x : α) {n : Nat} (h : n ≤ L.length) : (L ++ [x]).take n = L.take n := List.take_append_of_le_length h

/-- the bytes that a write of records leaves -/
theorem recs_body {B : List UInt8} {L : List En} {st fl k : Nat} (hst : st ≤ fl) (hb : Body B (flatB (L.take st))) (hfit : 64 + (padB (flatB (L.take fl))).length ≤ B.length) :
    ∀ (k : Nat), k ≤ ((padB (flatB (L.take fl))).drop ((flatB (L.take st)).length / 64 * 64)).length → Body (putB B (64 + (flatB (L.take st)).length / 64 * 64) ((padB (flatB (L.take fl))).drop ((flatB (L.take st)).length / 64 * 64)) k) (flatB (L.take st)) ∧
      (k = ((padB (flatB (L.take fl))).drop ((flatB (L.take st)).length / 64 * 64)).length → Body (putB B (64 + (flatB (L.take st)).length / 64 * 64) ((padB (flatB (L.take fl))).drop ((flatB (L.take st)).length / 64 * 64)) k) (flatB (L.take fl))) := by
  intro k hk
  have hle := flatB_take_take L hst
  have hpl := padB_len (flatB (L.take fl))
  have hpl2 : (flatB (L.take fl)).length ≤ (padB (flatB (L.take fl))).length := by rw [hpl]; unfold up64; omega
  have hlen : (putB B (64 + (flatB (L.take st)).length / 64 * 64) ((padB (flatB (L.take fl))).drop ((flatB (L.take st)).length / 64 * 64)) k).length = B.length := putB_len (by rw [List.length_drop]; omega) hk
  rw [List.length_drop] at hk
  have hg : ∀ i, (putB B (64 + (flatB (L.take st)).length / 64 * 64) ((padB (flatB (L.take fl))).drop ((flatB (L.take st)).length / 64 * 64)) k)[64 + i]? = if i < (flatB (L.take st)).length / 64 * 64 then B[64 + i]? else if i < (flatB (L.take st)).length / 64 * 64 + k then (padB (flatB (L.take fl)))[i]? else B[64 + i]? := fun i => by
    rw [putB_get (by omega) (by rw [List.length_drop]; omega)]
    by_cases h1 : i < (flatB (L.take st)).length / 64 * 64
    · rw [if_pos (by omega), if_pos h1]
    · rw [if_neg (by omega), if_neg h1]
      by_cases h2 : i < (flatB (L.take st)).length / 64 * 64 + k
      · rw [if_pos (by omega), if_pos h2, List.getElem?_drop]; congr 1; omega
      · rw [if_neg (by omega), if_neg h2]
  refine ⟨⟨by rw [hlen]; exact hb.1, fun i hi => ?_⟩, fun he => ⟨by rw [hlen]; omega, fun i hi => ?_⟩⟩
  · rw [hg]
    split
    · exact hb.2 i hi
    · split
      · rw [padB_get (by omega), flatB_pre L hst hi]
      · exact hb.2 i hi
  · rw [List.length_drop] at he
    rw [hg]
    split
    · rw [hb.2 i (by omega), flatB_pre L hst (by omega)]
    · rw [if_pos (by omega), padB_get hi]
theorem put_take8 {B b : List UInt8} {a k : Nat} (h : a + k ≤ B.length) (hk : k ≤ b.length) (ha : 64 ≤ a) : (putB B a b k).take 8 = B.take 8 := by
  apply List.ext_getElem?
  intro i
  rw [List.getElem?_take, List.getElem?_take]
  split
  · rw [putB_get h hk, if_pos (by omega)]
  · rfl
theorem markB_take8 (n : Nat) : (markB n).take 8 = sealB (leB n 4) := by
  unfold markB padB
  rw [List.take_append_of_le_length (by rw [sealB_len, leB_len]; omega), List.take_of_length_le (by rw [sealB_len, leB_len]; omega)]
theorem mark_body {B P : List UInt8} {n k : Nat} (hb : Body B P) (hk : k ≤ 64) : Body (putB B 0 (markB n) k) P := by
  have h1 := hb.1
  have hm := markB_len n
  refine ⟨by rw [putB_len (by omega) (by omega)]; exact h1, fun i hi => ?_⟩
  rw [putB_get (by omega) (by omega), if_neg (by omega), if_neg (by omega)]
  exact hb.2 i hi
theorem mark_told {B : List UInt8} {n : Nat} (hB : n + 64 ≤ B.length) (h32 : n < 4294967296) : toldB (putB B 0 (markB n) 64) = n := by
  have hm := markB_len n
  refine toldB_mark ?_ (by rw [putB_len (by omega) (by omega)]; exact hB) h32
  rw [← markB_take8]
  unfold putB
  rw [List.take_zero, List.nil_append, List.take_append_of_le_length (by rw [List.length_take]; omega), List.take_take]
  rfl
end Go.Proofs.Ytplpjikcgheiiaa.Wal

/- Logs, plainly: each step keeps what holds. -/
namespace Go.Proofs.Ytplpjikcgheiiaa.Wal
open Go Go.Proofs.Ytplpjikcgheiiaa Go.Proofs.Ytplpjikcgheiiaa.Rec Xf Go.RowKit
open Go.Proofs.Ytplpjikcgheiiaa.Enc (leB leB_len leVal leVal_leB)
set_option linter.unusedVariables false
set_option linter.unusedSimpArgs false
set_option maxRecDepth 100000

theorem startD_free {d : Dv} {hand : Int} {a : Nat} {b : List UInt8} (hh : hands hand) (ha : a % 64 = 0) (hb : b.length % 64 = 0) (h0 : 0 < b.length) (hf : a + b.length ≤ d.B.length) (hu : upOf d hand = none) :
    startD d hand (a : Int) b = (⟨d.B, d.up.set hand.toNat (some (a, b))⟩, 0) := by
  have ht : ((a : Nat) : Int).tmod 64 = 0 := by rw [tmod64 (by omega)]; omega
  unfold startD
  rw [if_neg (by unfold argD; rintro (h | h | h | h); exact h hh; exact h ht; omega; omega), if_neg (by omega)]
  unfold upOf at hu
  rw [if_pos hu, Int.toNat_natCast]
theorem up_set {d : Dv} {hand : Int} {B : List UInt8} {x : Wr} (ok : DvOk d) (hh : hands hand) : upOf ⟨B, d.up.set hand.toNat x⟩ hand = x := by
  unfold upOf
  have := ok.eight
  have h1 := hh.1
  have h2 := hh.2
  rw [List.getD_eq_getElem?_getD, List.getElem?_set_self (by omega)]
  rfl
theorem endD_some {d : Dv} {hand m : Int} {a : Nat} {b : List UInt8} (hh : hands hand) (hu : upOf d hand = some (a, b)) : endD d hand m = (⟨putB d.B a b (cutL b.length m), d.up.set hand.toNat none⟩, 0) := by
  unfold endD
  unfold upOf at hu
  rw [if_pos hh, hu]
theorem endD_none {d : Dv} {hand m : Int} (hh : hands hand) (hu : upOf d hand = none) : endD d hand m = (d, 8) := by
  unfold endD
  unfold upOf at hu
  rw [if_pos hh, hu]
theorem up_fits {d : Dv} {hand : Int} {a : Nat} {b : List UInt8} (ok : DvOk d) (hu : upOf d hand = some (a, b)) : a % 64 = 0 ∧ b.length % 64 = 0 ∧ 0 < b.length ∧ a + b.length ≤ d.B.length := ok.fits _ a b (getD_some hu)

/-- a device at rest that holds just these -/
structure At (d : Dv) (hand : Int) (L : List En) : Prop where
  dok : DvOk d
  hnd : hands hand
  can : Can L
  told : toldB d.B = (flatB L).length
  body : Body d.B (flatB L)
  idle : upOf d hand = none
theorem At.scan {d : Dv} {hand : Int} {L : List En} (h : At d hand L) : scanD d.B = (L, (flatB L).length) := by
  have := h.body.1
  unfold scanD
  rw [if_neg (by omega), h.told, h.body.take, scanB_can h.can]
theorem At.openE {d : Dv} {hand : Int} {L : List En} (h : At d hand L) : openE d hand = 0 := by
  have := h.body.1
  unfold Wal.openE
  rw [if_neg (fun hx => hx.elim (fun hx => by omega) fun hx => hx h.hnd), if_pos (show d.up.getD hand.toNat none = none from h.idle)]
theorem At.openS {d : Dv} {hand : Int} {L : List En} (h : At d hand L) : openS d hand = ⟨hand, L, (flatB L).length, L.length, 0, 0, false, 0⟩ := by
  unfold Wal.openS
  rw [h.scan]
theorem At.inv {d : Dv} {hand : Int} {L : List En} (h : At d hand L) : Inv d (Wal.openS d hand) := by
  have fit := openS_fit h.dok h.openE
  have e := h.openS
  rw [e] at fit ⊢
  exact ⟨h.dok, fit, h.can, by rw [List.take_length]; exact h.told, by rw [List.take_length]; exact h.body, fun h => absurd rfl h, fun _ => h.idle, fun h => absurd rfl h, fun h => absurd rfl h, fun h => absurd rfl h⟩
theorem At.new {n : Nat} {hand : Int} (h64 : n % 64 = 0) (hm : n ≤ 65536) (h0 : 64 ≤ n) (hh : hands hand) : At (newD n) hand [] := by
  refine ⟨DvOk.new h64 hm, hh, Can.nil, toldB_zero n, ⟨by simpa [flatB, newD] using h0, fun i hi => by simp [flatB] at hi⟩, ?_⟩
  unfold upOf newD
  have h1 := hh.1
  have h2 := hh.2
  rw [List.getD_eq_getElem?_getD, List.getElem?_replicate, if_pos (by omega)]
  rfl

theorem Inv.ext {d : Dv} {s s' : Lg} (h : Inv d s) (fit' : LgFit d.B.length s') (can' : Can s'.L) (hL : ∀ n, n ≤ s.L.length → s'.L.take n = s.L.take n) (hst : s'.st = s.st) (hfl : s'.fl = s.fl) (hmk : s'.mkd = s.mkd) (htw : s'.tw = s.tw) (hhd : s'.hand = s.hand) : Inv d s' := by
  have e1 := hL s.st h.fit.st
  have e2 := hL s.fl h.fit.fl
  have e3 : forceA s' = forceA s := by unfold forceA; rw [hst, e1]
  refine ⟨h.dok, fit', can', by rw [hst, e1]; exact h.told, by rw [hst, e1]; exact h.body, by rw [hfl, hst]; exact h.stfl, by rw [hfl, hhd]; exact h.idle, by rw [hfl, hmk, e2]; exact h.mkd, ?_, ?_⟩
  · rw [hfl, htw, hhd, e3, e2]; exact h.recs
  · rw [hfl, htw, hhd, hmk, e2]; exact h.mark
theorem Inv.join {d : Dv} {s : Lg} {r : Re} {room : Int} (h : Inv d s) (hr : room ≤ roomL d.B.length s) : Inv d (joinL s r room).1 := by
  by_cases h0 : (joinL s r room).2 = 0
  · have fit' := h.fit.join (r := r) hr
    obtain ⟨h1, h2, h3, h4⟩ := joinL_ok h0
    rw [h4] at fit' ⊢
    exact h.ext fit' (h.can.snoc h1 h2) (fun n hn => take_snoc _ _ hn) rfl rfl rfl rfl rfl
  · rw [joinL_no h0]; exact h
theorem Inv.spend {d : Dv} {s : Lg} {r : Re} (h : Inv d s) : Inv d (spendL s r).1 := by
  have fit' := h.fit.spend (r := r)
  by_cases h0 : (joinL s r s.kp).2 = 0
  · obtain ⟨h1, h2, h3, h4⟩ := joinL_ok h0
    have e : (spendL s r).1 = { s with L := s.L ++ [⟨r, frB r⟩], size := s.size + (frB r).length, kp := s.kp - (frB r).length } := by unfold spendL; rw [if_pos h0, h4]
    rw [e] at fit' ⊢
    exact h.ext fit' (h.can.snoc h1 h2) (fun n hn => take_snoc _ _ hn) rfl rfl rfl rfl rfl
  · have e : (spendL s r).1 = s := by unfold spendL; rw [if_neg h0, joinL_no h0]
    rw [e]; exact h
theorem Inv.keep {d : Dv} {s : Lg} {m : Int} (h : Inv d s) : Inv d (keepL d.B.length s m).1 := by
  have fit' := h.fit.keep (m := m)
  unfold keepL at fit' ⊢
  split
  · exact h
  split
  · exact h
  rename_i h1 h2
  rw [if_neg h1, if_neg h2] at fit'
  exact h.ext fit' h.can (fun n hn => rfl) rfl rfl rfl rfl rfl
theorem Inv.drop {d : Dv} {s : Lg} {m : Int} (h : Inv d s) : Inv d (dropL s m) := by
  have fit' := h.fit.drop (m := m)
  unfold dropL at fit' ⊢
  split
  · rename_i h1
    rw [if_pos h1] at fit'
    exact h.ext fit' h.can (fun n hn => rfl) rfl rfl rfl rfl rfl
  · exact h

theorem flatB_grows {L : List En} (hf : ∀ x ∈ L, x.b = frB x.r) {i : Nat} (h : i < L.length) : (flatB (L.take i)).length < (flatB L).length := by
  have h1 := flatB_split L i
  have h2 := Can.six (L := L.drop i) fun x hx => hf x (List.mem_of_mem_drop hx)
  rw [List.length_drop] at h2
  rw [h1, List.length_append]; omega
theorem Inv.force_go {d : Dv} {s : Lg} (h : Inv d s) (h0 : s.fl = 0) (h1 : s.st < s.L.length) : forceS d s = (⟨d.B, d.up.set s.hand.toNat (some (64 + forceA s, forceB s))⟩, 0) := by
  have hg := flatB_grows h.can.fr h1
  have hfl := h.fit.flat
  have hroom := h.fit.room
  have hm := h.dok.m64
  have hp := padB_len (flatB s.L)
  have hA : forceA s ≤ (flatB (s.L.take s.st)).length := by unfold forceA; omega
  have hA2 : forceA s % 64 = 0 := by unfold forceA; omega
  unfold up64 at hp
  refine startD_free h.fit.hand (by omega) ?_ ?_ ?_ (h.idle h0) <;> unfold forceB <;> rw [List.length_drop] <;> omega
theorem Inv.force {d : Dv} {s : Lg} (h : Inv d s) : (forceL d s).2.2 = decide (s.fl = 0 ∧ s.st < s.L.length) ∧ Inv (forceL d s).1 (forceL d s).2.1 ∧ (forceL d s).1.B = d.B ∧
    (forceL d s).2.1 = (if s.fl = 0 ∧ s.st < s.L.length then { s with fl := s.L.length, mkd := s.size, tw := false } else s) := by
  have hst := h.fit.st
  by_cases hc : s.fl = 0 ∧ s.st < s.L.length
  · have hg := h.force_go hc.1 hc.2
    have hok := h.dok.start s.hand ((64 + forceA s : Nat) : Int) (forceB s)
    have e : forceL d s = (⟨d.B, d.up.set s.hand.toNat (some (64 + forceA s, forceB s))⟩, { s with fl := s.L.length, mkd := s.size, tw := false }, true) := by
      unfold forceL
      rw [if_neg (by omega), hg, if_neg (by simp)]
    change DvOk (forceS d s).1 at hok
    rw [hg] at hok
    rw [e, if_pos hc]
    refine ⟨by rw [decide_eq_true hc], ⟨hok, ⟨h.fit.most, h.fit.room, h.fit.six, h.fit.st, Nat.le_refl _, Nat.le_refl _, h.fit.ok, h.fit.flat, h.fit.hand⟩, h.can, h.told, h.body, fun _ => hst, fun hf => ?_, fun _ => ?_, fun _ _ => ?_, fun _ hf => by cases hf⟩, rfl, rfl⟩
    · simp only at hf; omega
    · simp only [List.take_length]; exact h.fit.flat.symm
    · simp only [List.take_length]
      exact up_set h.dok h.fit.hand
  · have e : forceL d s = (d, s, false) := by unfold forceL; rw [if_pos (by omega)]
    rw [e, if_neg hc]
    exact ⟨by rw [decide_eq_false hc], h, rfl, rfl⟩
theorem upd_B (d : Dv) (s : Lg) : forceA s % 64 = 0 := by unfold forceA; omega
theorem Inv.recs_end {d : Dv} {s : Lg} (h : Inv d s) (h0 : s.fl ≠ 0) (h1 : s.tw = false) (m : Int) : ∃ B', (endD d s.hand m) = (⟨B', d.up.set s.hand.toNat none⟩, 0) ∧ B'.length = d.B.length ∧ toldB B' = toldB d.B ∧ Body B' (flatB (s.L.take s.st)) ∧ (m < 0 → Body B' (flatB (s.L.take s.fl))) := by
  have hu := h.recs h0 h1
  obtain ⟨f1, f2, f3, f4⟩ := up_fits h.dok hu
  have he := endD_some (m := m) h.fit.hand hu
  have hk := cutL_le ((padB (flatB (s.L.take s.fl))).drop (forceA s)).length m
  have hfits : 64 + (padB (flatB (s.L.take s.fl))).length ≤ d.B.length := by
    rw [List.length_drop] at f3 f4; omega
  have hb := recs_body (h.stfl h0) h.body hfits (k := 0) _ hk
  refine ⟨_, he, putB_len f4 hk, toldB_cong (put_take8 (by omega) hk (by omega)) (putB_len f4 hk), hb.1, fun hm => hb.2 ?_⟩
  unfold cutL
  rw [if_pos hm]
  rfl
theorem Inv.mark_end {d : Dv} {s : Lg} (h : Inv d s) (h0 : s.fl ≠ 0) (h1 : s.tw = true) (m : Int) : ∃ B', (endD d s.hand m) = (⟨B', d.up.set s.hand.toNat none⟩, 0) ∧ B'.length = d.B.length ∧ Body B' (flatB (s.L.take s.st)) ∧ Body B' (flatB (s.L.take s.fl)) ∧
    (toldB B' = (flatB (s.L.take s.fl)).length ∨ (¬ m < 0 ∧ toldB B' = toldB d.B)) := by
  obtain ⟨hu, hb2⟩ := h.mark h0 h1
  have hmk := h.mkd h0
  have hlen := markB_len s.mkd
  have he := endD_some (m := m) h.fit.hand hu
  have hk := cutL_le (markB s.mkd).length m
  have hB := hb2.1
  refine ⟨_, he, putB_len (by omega) hk, mark_body h.body (by omega), mark_body hb2 (by omega), ?_⟩
  have hc : cutL (markB s.mkd).length m = 64 ∨ (¬ m < 0 ∧ cutL (markB s.mkd).length m = 0) := by
    unfold cutL
    split
    · exact .inl hlen
    · rw [hlen]; omega
  rcases hc with hc | ⟨hm, hc⟩
  · left
    rw [hc, mark_told (by omega) (by have := h.fit.len; have := h.fit.mkd; omega), hmk]
  · right
    refine ⟨hm, ?_⟩
    rw [hc]
    unfold putB
    simp
theorem Inv.done {d : Dv} {s : Lg} (h : Inv d s) : Inv (doneL d s).1 (doneL d s).2.1 ∧ (doneL d s).1.B.length = d.B.length ∧
    (doneL d s).2.1 = (if s.fl = 0 then s else if s.tw then { s with st := s.fl, fl := 0 } else { s with tw := true }) ∧ (doneL d s).2.2 = (if s.fl = 0 then 8 else 0) := by
  by_cases h0 : s.fl = 0
  · have e : doneL d s = (d, s, 8) := by unfold doneL; rw [if_pos h0]
    rw [e, if_pos h0, if_pos h0]
    exact ⟨h, rfl, rfl, rfl⟩
  · cases htw : s.tw with
    | true =>
      obtain ⟨B', he, hl, hb1, hb2, ht⟩ := h.mark_end h0 htw (-1)
      have e : doneL d s = (⟨B', d.up.set s.hand.toNat none⟩, { s with st := s.fl, fl := 0 }, 0) := by unfold doneL; rw [if_neg h0, if_pos htw, he]
      have hok := h.dok.end_ s.hand (-1)
      rw [he] at hok
      have ht := ht.resolve_right (fun hx => hx.1 (by omega))
      have hf := h.fit
      rw [e, if_neg h0, if_neg h0, if_pos rfl]
      refine ⟨⟨hok, ⟨by rw [hl]; exact hf.most, by rw [hl]; exact hf.room, hf.six, hf.fl, Nat.zero_le _, hf.mkd, hf.ok, hf.flat, hf.hand⟩, h.can, ht, hb2, fun hx => absurd rfl hx, fun _ => up_set h.dok hf.hand, fun hx => absurd rfl hx, fun hx => absurd rfl hx, fun hx => absurd rfl hx⟩, hl, by rw [htw], rfl⟩
    | false =>
      obtain ⟨B', he, hl, ht, hb1, hb2⟩ := h.recs_end h0 htw (-1)
      have hok := h.dok.end_ s.hand (-1)
      rw [he] at hok
      have hb2 := hb2 (by omega)
      have hB := hb2.1
      have hlen := markB_len s.mkd
      have hup : upOf ⟨B', d.up.set s.hand.toNat none⟩ s.hand = none := up_set h.dok h.fit.hand
      have hs := startD_free (a := 0) (b := markB s.mkd) h.fit.hand rfl (by omega) (by omega) (by show 0 + _ ≤ B'.length; omega) hup
      have hok2 := hok.start s.hand ((0 : Nat) : Int) (markB s.mkd)
      rw [hs] at hok2
      have hs' : startD ⟨B', d.up.set s.hand.toNat none⟩ s.hand 0 (markB s.mkd) = _ := hs
      have e : doneL d s = (⟨B', (d.up.set s.hand.toNat none).set s.hand.toNat (some (0, markB s.mkd))⟩, { s with tw := true }, 0) := by
        unfold doneL
        rw [if_neg h0, if_neg (by rw [htw]; decide), he]
        simp only [hs']
        rfl
      have hf := h.fit
      rw [e, if_neg h0, if_neg h0, if_neg (by decide)]
      refine ⟨⟨hok2, ⟨by rw [hl]; exact hf.most, by rw [hl]; exact hf.room, hf.six, hf.st, hf.fl, hf.mkd, hf.ok, hf.flat, hf.hand⟩, h.can, by rw [ht]; exact h.told, hb1, h.stfl, fun hx => absurd hx h0, h.mkd, fun _ hx => (by cases hx), fun _ _ => ⟨?_, hb2⟩⟩, hl, rfl, rfl⟩
      exact up_set hok h.fit.hand
theorem Inv.crash {d : Dv} {s : Lg} (h : Inv d s) (n : Int) : ∃ j, (j = s.st ∨ (s.fl ≠ 0 ∧ j = s.fl)) ∧ j ≤ s.L.length ∧ At (crashD d s.hand n).1 s.hand (s.L.take j) ∧ (crashD d s.hand n).1.B.length = d.B.length := by
  have hf := h.fit
  unfold crashD
  have hm0 : ¬ (if n < 0 then 0 else n) < 0 := by split <;> omega
  generalize (if n < 0 then 0 else n) = m at hm0
  have hok := h.dok.end_ s.hand m
  by_cases h0 : s.fl = 0
  · have he := endD_none (m := m) hf.hand (h.idle h0)
    rw [he]
    exact ⟨s.st, .inl rfl, hf.st, ⟨h.dok, hf.hand, h.can.take _, h.told, h.body, h.idle h0⟩, rfl⟩
  · cases htw : s.tw with
    | true =>
      obtain ⟨B', he, hl, hb1, hb2, ht⟩ := h.mark_end h0 htw m
      rw [he] at hok ⊢
      have hup : upOf ⟨B', d.up.set s.hand.toNat none⟩ s.hand = none := up_set h.dok h.fit.hand
      rcases ht with ht | ⟨_, ht⟩
      · exact ⟨s.fl, .inr ⟨h0, rfl⟩, hf.fl, ⟨hok, hf.hand, h.can.take _, ht, hb2, hup⟩, hl⟩
      · exact ⟨s.st, .inl rfl, hf.st, ⟨hok, hf.hand, h.can.take _, by rw [← h.told]; exact ht, hb1, hup⟩, hl⟩
    | false =>
      obtain ⟨B', he, hl, ht, hb1, hb2⟩ := h.recs_end h0 htw m
      rw [he] at hok ⊢
      have hup : upOf ⟨B', d.up.set s.hand.toNat none⟩ s.hand = none := up_set h.dok h.fit.hand
      exact ⟨s.st, .inl rfl, hf.st, ⟨hok, hf.hand, h.can.take _, by rw [← h.told]; exact ht, hb1, hup⟩, hl⟩
end Go.Proofs.Ytplpjikcgheiiaa.Wal

/- Logs: a log and its device, as one thing. -/
namespace Go.Proofs.Ytplpjikcgheiiaa.Wal
open Go Go.Proofs.Ytplpjikcgheiiaa Go.Proofs.Ytplpjikcgheiiaa.Rec Xf Go.RowKit
set_option linter.unusedVariables false
set_option linter.unusedSimpArgs false
set_option maxRecDepth 100000

/-- a device in memory that is new behind W -/
def Dev (W : World) (dv : Value) (d : Dv) (w : World) : Prop := ∃ hd, DevH d dv hd ∧ Owns w hd ∧ Upd W w [] ∧ ∀ p ∈ hd, W.heap.size ≤ p.1
/-- a log with its device in memory that is new behind W -/
def Sys (W : World) (dv v : Value) (d : Dv) (s : Lg) (w : World) : Prop := ∃ h hd, LogH dv s v h ∧ DevH d dv hd ∧ Owns w (h ++ hd) ∧ Upd W w [] ∧ (∀ p ∈ h, W.heap.size ≤ p.1) ∧ ∀ p ∈ hd, W.heap.size ≤ p.1
variable {W w w' : World} {dv v : Value} {d : Dv} {s : Lg}
theorem Dev.ext (h : Dev W dv d w) (hU : Upd w w' []) : Dev W dv d w' := by
  obtain ⟨hd, h1, h2, h3, h4⟩ := h
  exact ⟨hd, h1, h2.ext hU, h3.trans hU, h4⟩
theorem Sys.ext (h : Sys W dv v d s w) (hU : Upd w w' []) : Sys W dv v d s w' := by
  obtain ⟨h, hd, h1, h2, h3, h4, h5, h6⟩ := h
  exact ⟨h, hd, h1, h2, h3.ext hU, h4.trans hU, h5, h6⟩
theorem Dev.upd (h : Dev W dv d w) : Upd W w [] := by obtain ⟨hd, h1, h2, h3, h4⟩ := h; exact h3
theorem Sys.upd (h : Sys W dv v d s w) : Upd W w [] := by obtain ⟨h, hd, h1, h2, h3, h4, h5, h6⟩ := h; exact h4
theorem Sys.dev (h : Sys W dv v d s w) : Dev W dv d w := by
  obtain ⟨h, hd, h1, h2, h3, h4, h5, h6⟩ := h
  exact ⟨hd, h2, h3.sub (List.sublist_append_right _ _), h4, h6⟩
theorem fresh0 {h : List (Nat × Obj)} (hh : ∀ p ∈ h, W.heap.size ≤ p.1) : ∀ p ∈ h, p.1 ∈ ([] : List Nat) ∨ W.heap.size ≤ p.1 := fun p hp => .inr (hh p hp)
theorem fresh1 {h : List (Nat × Obj)} (hh : ∀ p ∈ h, p.1 ∈ ([] : List Nat) ∨ W.heap.size ≤ p.1) : ∀ p ∈ h, W.heap.size ≤ p.1 := fun p hp => (hh p hp).resolve_left (by simp)
theorem Dev.ptr (h : Dev W dv d w) : ∃ g, dv = .pointer (some g) := by
  obtain ⟨hd, ⟨g, vb, vs, hb, hu, rfl, _⟩, _⟩ := h
  exact ⟨_, rfl⟩

theorem sysNew (hU : Upd W w []) (n : Int) : CallsR Try.prog 8 #[.int .i64 n] w fun r w' => Upd W w' [] ∧ ((¬ sizeOk n ∧ r = .tuple #[.pointer none, .int .i64 1]) ∨
    (sizeOk n ∧ ∃ g, r = .tuple #[.pointer (some g), .int .i64 0] ∧ Dev W (.pointer (some g)) (newD n.toNat) w')) := by
  refine CallsR.mono (New_spec hU (Owns.nil w) n) ?_
  rintro r w' ⟨hU', ⟨hn, rfl, _⟩ | ⟨hs, v, h, rfl, hd, hO, hh⟩⟩
  · exact ⟨hU', .inl ⟨hn, rfl⟩⟩
  · rw [List.append_nil] at hO
    have hD : Dev W v (newD n.toNat) w' := ⟨h, hd, hO, hU', hh⟩
    obtain ⟨g, rfl⟩ := hD.ptr
    exact ⟨hU', .inr ⟨hs, g, rfl, hD⟩⟩
theorem sysOpen (h : Dev W dv d w) (ok : DvOk d) (hand : Int) : CallsR Try.prog 10 #[dv, .int .i64 hand] w fun r w' =>
    (openE d hand ≠ 0 ∧ r = .tuple #[.pointer none, .int .i64 (openE d hand)] ∧ Dev W dv d w') ∨ (openE d hand = 0 ∧ ∃ g, r = .tuple #[.pointer (some g), .int .i64 0] ∧ Sys W dv (.pointer (some g)) d (openS d hand) w') := by
  obtain ⟨hd, h1, h2, h3, h4⟩ := h
  refine CallsR.mono (Open_log_spec ok h1 (fun p hp => hp) h2 h3 hand) ?_
  rintro r w' ⟨hU', ⟨hn, rfl, hO⟩ | ⟨he, g, h', rfl, hl, hO, hh⟩⟩
  · exact .inl ⟨hn, rfl, hd, h1, hO, hU', h4⟩
  · exact .inr ⟨he, g, rfl, h', hd, hl, h1, hO, hU', hh, h4⟩
theorem sysRead (h : Dev W dv d w) (ok : DvOk d) : CallsR Try.prog 21 #[dv] w fun u w' => RdRs w' u ((scanD d.B).1.map (·.r)) ∧ Dev W dv d w' := by
  have h0 := h
  obtain ⟨hd, h1, h2, h3, h4⟩ := h
  refine CallsR.mono (Read_log_spec h1 ok.most (fun p hp => hp) h2) ?_
  rintro u w' ⟨hU, hR⟩
  exact ⟨hR, h0.ext hU⟩
theorem sysCrash (h : Dev W dv d w) (ok : DvOk d) (hand n : Int) : CallsR Try.prog 15 #[dv, .int .i64 hand, .int .i64 n] w fun r w' => r = .int .i64 (crashD d hand n).2 ∧ Dev W dv (crashD d hand n).1 w' := by
  obtain ⟨hd, h1, h2, h3, h4⟩ := h
  refine CallsR.mono (Crash_spec (F := []) ok h1 (by rwa [List.append_nil]) h3 (fresh0 h4) hand n) ?_
  rintro r w' ⟨rfl, hU, h', hd', hO, hh⟩
  rw [List.append_nil] at hO
  exact ⟨rfl, h', hd', hO, hU, fresh1 hh⟩
theorem nilF {h hd : List (Nat × Obj)} (hO : Owns w (h ++ hd)) : Owns w (h ++ (hd ++ [])) := by rwa [List.append_nil]
theorem Sys.of {h h' hd : List (Nat × Obj)} {s' : Lg} (hl : LogH dv s' v h') (hd' : DevH d dv hd) (hO : Owns w (h' ++ (hd ++ []))) (hU : Upd W w []) (h1 : ∀ p ∈ h', p.1 ∈ ([] : List Nat) ∨ W.heap.size ≤ p.1) (h2 : ∀ p ∈ hd, W.heap.size ≤ p.1) : Sys W dv v d s' w :=
  ⟨h', hd, hl, hd', by rwa [List.append_nil] at hO, hU, fresh1 h1, h2⟩
theorem sysAppend (h : Sys W dv v d s w) (fit : LgFit d.B.length s) {vr : Value} {r : Re} (hr : RdRe w vr r) :
    CallsR Try.prog 12 #[v, vr] w fun u w' => u = .int .i64 (joinL s r (roomL d.B.length s)).2 ∧ Sys W dv v d (joinL s r (roomL d.B.length s)).1 w' := by
  obtain ⟨h, hd, h1, h2, h3, h4, h5, h6⟩ := h
  refine CallsR.mono (Append_spec h1 h2 (nilF h3) h4 (fresh0 h5) fit hr) ?_
  rintro u w' ⟨rfl, hU, h', hl', hO, hh⟩
  exact ⟨rfl, Sys.of (h := h) hl' h2 hO hU hh h6⟩
theorem sysKeep (h : Sys W dv v d s w) (fit : LgFit d.B.length s) (m : Int) (hm : -9223372036854775808 ≤ m) :
    CallsR Try.prog 29 #[v, .int .i64 m] w fun u w' => u = .int .i64 (keepL d.B.length s m).2 ∧ Sys W dv v d (keepL d.B.length s m).1 w' := by
  obtain ⟨h, hd, h1, h2, h3, h4, h5, h6⟩ := h
  refine CallsR.mono (Keep_spec h1 h2 (nilF h3) h4 (fresh0 h5) fit m hm) ?_
  rintro u w' ⟨rfl, hU, h', hl', hO, hh⟩
  exact ⟨rfl, Sys.of (h := h) hl' h2 hO hU hh h6⟩
theorem sysSpend (h : Sys W dv v d s w) (fit : LgFit d.B.length s) {vr : Value} {r : Re} (hr : RdRe w vr r) :
    CallsR Try.prog 33 #[v, vr] w fun u w' => u = .int .i64 (spendL s r).2 ∧ Sys W dv v d (spendL s r).1 w' := by
  obtain ⟨h, hd, h1, h2, h3, h4, h5, h6⟩ := h
  refine CallsR.mono (Spend_spec (F := hd ++ []) h1 (nilF h3) h4 (fresh0 h5) fit hr) ?_
  rintro u w' ⟨rfl, hU, h', hl', hO, hh⟩
  exact ⟨rfl, Sys.of (h := h) hl' h2 hO hU hh h6⟩
theorem sysForce (h : Sys W dv v d s w) (ok : DvOk d) (fit : LgFit d.B.length s) :
    CallsR Try.prog 13 #[v] w fun u w' => u = .bool (forceL d s).2.2 ∧ Sys W dv v (forceL d s).1 (forceL d s).2.1 w' := by
  obtain ⟨h, hd, h1, h2, h3, h4, h5, h6⟩ := h
  refine CallsR.mono (Force_spec ok h1 h2 (nilF h3) h4 (fresh0 h5) (fresh0 h6) fit) ?_
  rintro u w' ⟨rfl, hU, h', hd2, hl', hd2', hO, hh, hh2⟩
  exact ⟨rfl, Sys.of (h := h) hl' hd2' hO hU hh (fresh1 hh2)⟩
theorem sysDone (h : Sys W dv v d s w) (ok : DvOk d) (fit : LgFit d.B.length s) :
    CallsR Try.prog 14 #[v] w fun u w' => u = .int .i64 (doneL d s).2.2 ∧ Sys W dv v (doneL d s).1 (doneL d s).2.1 w' := by
  obtain ⟨h, hd, h1, h2, h3, h4, h5, h6⟩ := h
  refine CallsR.mono (Done_log_spec ok h1 h2 (nilF h3) h4 (fresh0 h5) (fresh0 h6) fit) ?_
  rintro u w' ⟨rfl, hU, h', hd2, hl', hd2', hO, hh, hh2⟩
  exact ⟨rfl, Sys.of (h := h) hl' hd2' hO hU hh (fresh1 hh2)⟩
theorem sysRoom (h : Sys W dv v d s w) (fit : LgFit d.B.length s) :
    CallsR Try.prog 30 #[v] w fun u w' => u = .int .i64 (roomL d.B.length s) ∧ Sys W dv v d s w' := by
  have h0 := h
  obtain ⟨h, hd, h1, h2, h3, h4, h5, h6⟩ := h
  refine CallsR.mono (Room_spec h1 (fun p hp => List.mem_append_left _ hp) h3 h2 (fun p hp => List.mem_append_right _ hp) fit) ?_
  rintro u w' ⟨rfl, hU, hO⟩
  exact ⟨rfl, h0.ext hU⟩
theorem sysKept (h : Sys W dv v d s w) : CallsR Try.prog 31 #[v] w fun u w' => u = .int .i64 (s.kp : Nat) ∧ Sys W dv v d s w' := by
  have h0 := h
  obtain ⟨h, hd, h1, h2, h3, h4, h5, h6⟩ := h
  refine CallsR.mono (Kept_spec h1 (fun p hp => List.mem_append_left _ hp) h3) ?_
  rintro u w' ⟨rfl, rfl⟩
  exact ⟨rfl, h0⟩
theorem sysFlying (h : Sys W dv v d s w) : CallsR Try.prog 35 #[v] w fun u w' => u = .bool (decide (0 < s.fl)) ∧ Sys W dv v d s w' := by
  have h0 := h
  obtain ⟨h, hd, h1, h2, h3, h4, h5, h6⟩ := h
  refine CallsR.mono (Flying_log_spec h1 (fun p hp => List.mem_append_left _ hp) h3) ?_
  rintro u w' ⟨rfl, rfl⟩
  exact ⟨rfl, h0⟩
theorem sysLast (h : Sys W dv v d s w) : CallsR Try.prog 32 #[v] w fun u w' => u = .int .u64 (lastL s.L : Nat) ∧ Sys W dv v d s w' := by
  have h0 := h
  obtain ⟨h, hd, h1, h2, h3, h4, h5, h6⟩ := h
  refine CallsR.mono (Last_spec h1 (fun p hp => List.mem_append_left _ hp) h3) ?_
  rintro u w' ⟨rfl, rfl⟩
  exact ⟨rfl, h0⟩
theorem sysStable (h : Sys W dv v d s w) (hst : s.st ≤ s.L.length) : CallsR Try.prog 25 #[v] w fun u w' => u = .int .u64 (lsnAt (s.L.map (·.r)) s.st : Nat) ∧ Sys W dv v d s w' := by
  have h0 := h
  obtain ⟨h, hd, h1, h2, h3, h4, h5, h6⟩ := h
  refine CallsR.mono (Stable_spec h1 (fun p hp => List.mem_append_left _ hp) h3 hst) ?_
  rintro u w' ⟨rfl, rfl⟩
  exact ⟨rfl, h0⟩
theorem sysRecords (h : Sys W dv v d s w) (fit : LgFit d.B.length s) : CallsR Try.prog 16 #[v] w fun u w' => RdRs w' u (s.L.map (·.r)) ∧ Sys W dv v d s w' := by
  have h0 := h
  obtain ⟨h, hd, h1, h2, h3, h4, h5, h6⟩ := h
  have := fit.len
  refine CallsR.mono (Records_spec h1 (fun p hp => List.mem_append_left _ hp) h3 fit.ok (by omega)) ?_
  rintro u w' ⟨hU, hR⟩
  exact ⟨hR, h0.ext hU⟩
theorem RdRs.mono {u : Value} {L : List Re} (h : RdRs w u L) (hU : Upd w w' []) : RdRs w' u L := by
  obtain ⟨A, c, rfl, hm, h⟩ := h
  refine ⟨A, c, rfl, hm, fun i hi => ?_⟩
  obtain ⟨a, vt, vd, ha, hc, o1, o2, r1, r2⟩ := h i hi
  refine ⟨a, vt, vd, ha, fun j u hu => ?_, o1, o2, r1.mono hU, r2.mono hU⟩
  have := hc j u hu
  rw [hU.cell (World.block_lt_of_cell? w _ this) (by simp)]; exact this

/-! the fixed example -/
def exR : Re := ⟨3, 33, 7, 0, 0, 0, 0, [], [], [], [], []⟩
theorem build_ex (w : World) : (sBuild 41 [(0, .int .i64 3), (1, .int .u64 33), (2, .int .i64 7)]).run Try.prog w = .ok (.value (.agg (reV exR nilS nilS).toArray)) w := by kernel_rfl
theorem exR_okP : okP exR := by
  refine ⟨by decide, by decide, by decide, by decide, by decide, ?_, ?_, ?_, ?_, ?_⟩
  · rw [if_neg (by decide)]; exact ⟨rfl, rfl, rfl, rfl, rfl⟩
  · rw [if_neg (by decide)]; decide
  · intro _; exact ⟨rfl, rfl⟩
  · intro _; rfl
  · exact ⟨by decide, by decide, fun i hi => by exact absurd hi (by simp [exR, re0]), fun i hi => by exact absurd hi (by simp [exR, re0])⟩
theorem exR_len : (frB exR).length = 27 := by rw [frB_len]; decide
theorem lives_spec (hU : Upd W w []) : CallsR Try.prog 9 #[] w fun r w' => r = .bool true ∧ Upd W w' [] := by
  apply flotillalaw09_lives_sound
  unfold flotillalaw09_lives_x
  refine st_call (sysNew hU 192) ?_
  rintro _ w1 ⟨hU1, ⟨hn, _⟩ | ⟨_, g, rfl, hD⟩⟩
  · exact absurd (by decide) hn
  have hat : At (newD (Int.toNat 192)) 0 [] := At.new (by decide) (by decide) (by decide) (by decide)
  simp only [PX]
  refine st_call (sysOpen hD hat.dok 0) ?_
  rintro _ w2 (⟨hn, _⟩ | ⟨_, g2, rfl, hS⟩)
  · exact absurd hat.openE hn
  have hI := hat.inv
  rw [hat.openS] at hS hI
  simp only [PX, BX]
  refine ⟨fun h => absurd rfl h, fun _ => ?_⟩
  rw [step_run (build_ex _)]
  refine st_call (sysAppend hS hI.fit (r := exR) ⟨nilS, nilS, rfl, ⟨none, 0, rfl, Nat.zero_le _, Rd.nil_ _ _⟩, ⟨none, 0, rfl, Nat.zero_le _, Rd.nil_ _ _⟩⟩) ?_
  have hj : joinL ⟨0, [], (flatB []).length, ([] : List En).length, 0, 0, false, 0⟩ exR (roomL (newD (Int.toNat 192)).B.length ⟨0, [], (flatB []).length, ([] : List En).length, 0, 0, false, 0⟩) = (⟨0, [⟨exR, frB exR⟩], 27, 0, 0, 0, false, 0⟩, 0) := by
    have hro : roomL (newD (Int.toNat 192)).B.length ⟨0, [], (flatB []).length, ([] : List En).length, 0, 0, false, 0⟩ = 128 := by decide
    unfold joinL
    rw [hro, exR_len, if_neg, if_neg (by decide)]
    · rfl
    · rintro (h | h)
      · exact h exR_okP
      · exact absurd h (by decide)
  have hI1 := hI.join (r := exR) (Int.le_refl _)
  rw [hj] at hI1 ⊢
  rintro _ w3 ⟨rfl, hS3⟩
  simp only [PX, BX]
  refine ⟨fun h => absurd rfl h, fun _ => ?_⟩
  refine st_call (sysRoom hS3 hI1.fit) ?_
  rintro _ w4 ⟨rfl, hS4⟩
  have hro : roomL (newD (Int.toNat 192)).B.length ⟨0, [⟨exR, frB exR⟩], 27, 0, 0, 0, false, 0⟩ = 101 := by decide
  rw [hro]
  simp only [PX, BX]
  refine ⟨fun _ => ?_, fun h => absurd trivial h⟩
  refine st_call (sysForce hS4 hI1.dok hI1.fit) ?_
  have hF1 : (forceL (newD (Int.toNat 192)) ⟨0, [⟨exR, frB exR⟩], 27, 0, 0, 0, false, 0⟩).2.2 = true := hI1.force.1.trans (decide_eq_true (by decide))
  have hF2 : (forceL (newD (Int.toNat 192)) ⟨0, [⟨exR, frB exR⟩], 27, 0, 0, 0, false, 0⟩).2.1 = ⟨0, [⟨exR, frB exR⟩], 27, 0, 1, 27, false, 0⟩ := hI1.force.2.2.2.trans (if_pos (by decide))
  have hI5 := hI1.force.2.1
  rw [hF1, hF2]
  rw [show (forceL (newD (Int.toNat 192)) _).2.1 = _ from hF2] at hI5
  generalize (forceL (newD (Int.toNat 192)) ⟨0, [⟨exR, frB exR⟩], 27, 0, 0, 0, false, 0⟩).1 = d5 at hI5 ⊢
  rintro _ w5 ⟨rfl, hS5⟩
  simp only [BX]
  refine st_call (sysDone hS5 hI5.dok hI5.fit) ?_
  obtain ⟨hI6, -, hs6, hc6⟩ := hI5.done
  rw [if_neg (by decide), if_neg (by decide)] at hs6
  rw [if_neg (by decide)] at hc6
  rw [hs6] at hI6 ⊢
  rw [hc6]
  generalize (doneL d5 ⟨0, [⟨exR, frB exR⟩], 27, 0, 1, 27, false, 0⟩).1 = d6 at hI6 ⊢
  rintro _ w6 ⟨rfl, hS6⟩
  simp only [PX, BX]
  refine ⟨fun _ => ?_, fun h => absurd trivial h⟩
  refine st_call (sysStable hS6 (by decide)) ?_
  rintro _ w7 ⟨rfl, hS7⟩
  simp only [PX, BX]
  refine ⟨fun _ => ?_, fun h => absurd (by decide) h⟩
  refine st_call (sysDone hS7 hI6.dok hI6.fit) ?_
  obtain ⟨hI8, -, hs8, hc8⟩ := hI6.done
  rw [if_neg (by decide), if_pos (by decide)] at hs8
  rw [if_neg (by decide)] at hc8
  rw [hs8] at hI8 ⊢
  rw [hc8]
  generalize (doneL d6 ⟨0, [⟨exR, frB exR⟩], 27, 0, 1, 27, true, 0⟩).1 = d8 at hI8 ⊢
  rintro _ w8 ⟨rfl, hS8⟩
  simp only [PX, BX]
  refine ⟨fun _ => ?_, fun h => absurd trivial h⟩
  refine st_call (sysStable hS8 (by decide)) ?_
  rintro _ w9 ⟨rfl, hS9⟩
  simp only [PX]
  exact ⟨rfl, hS9.upd⟩
end Go.Proofs.Ytplpjikcgheiiaa.Wal

/- The reference device at rest. -/
namespace Go.Proofs.Ytplpjikcgheiiaa
open Go Xf Go.RowKit
set_option linter.unusedVariables false
set_option linter.unusedSimpArgs false
set_option maxRecDepth 100000

variable {w W : World} {ks : List Nat} {F : List (Nat × Obj)}

def refC (s : List UInt8) : List Value :=
  [.string ⟨s.toArray⟩, .bool false, .int .i64 0, .string ⟨#[]⟩, .bool false, .int .i64 0, .string ⟨#[]⟩, .bool false, .int .i64 0, .string ⟨#[]⟩, .bool false, .int .i64 0, .string ⟨#[]⟩,
    .bool false, .int .i64 0, .string ⟨#[]⟩, .bool false, .int .i64 0, .string ⟨#[]⟩, .bool false, .int .i64 0, .string ⟨#[]⟩, .bool false, .int .i64 0, .string ⟨#[]⟩]
theorem refC_len (s : List UInt8) : (refC s).length = 25 := rfl
theorem refC_one (s : List UInt8) : ∀ u ∈ refC s, u.oneCell' = true := by
  intro u hu
  simp only [refC, List.mem_cons, List.not_mem_nil, or_false] at hu
  rcases hu with h | h | h | h | h | h | h | h | h | h | h | h | h | h | h | h | h | h | h | h | h | h | h | h | h <;> subst h <;> rfl
theorem refC_at (s : List UInt8) {i : Nat} (hi : i < 8) : (refC s)[1 + i * 3]? = some (.bool false) ∧ (refC s)[1 + i * 3 + 1]? = some (.int .i64 0) ∧ (refC s)[1 + i * 3 + 2]? = some (.string ⟨#[]⟩) := by
  have : i = 0 ∨ i = 1 ∨ i = 2 ∨ i = 3 ∨ i = 4 ∨ i = 5 ∨ i = 6 ∨ i = 7 := by omega
  rcases this with rfl | rfl | rfl | rfl | rfl | rfl | rfl | rfl <;> exact ⟨rfl, rfl, rfl⟩
theorem build_ref0 (w : World) : (sBuild 56 []).run Try.prog w = .ok (.value (.agg (refC []).toArray)) w := by kernel_rfl
theorem build_ref (s : List UInt8) (w : World) : (sBuild 56 [(0, .string ⟨s.toArray⟩)]).run Try.prog w = .ok (.value (.agg (refC s).toArray)) w := by kernel_rfl

theorem st_str {v : Value} {n : Nat} {l : List UInt8} {K : Value → World → Prop} (h : Rd w 1 v n (bytesV l)) : (std Try.prog).step (sConv 51 9 v) w K = K (.string ⟨l.toArray⟩) w :=
  step_run (run_str u51 u5 u9 h)
theorem Noughts_spec (hU : Upd W w ks) (hO : Owns w F) {n : Nat} (hn : n ≤ 1000000) : CallsR Try.prog 50 #[.int .i64 (n : Nat)] w fun r w' => r = .string ⟨(List.replicate n (0 : UInt8)).toArray⟩ ∧ Upd W w' ks ∧ Owns w' F := by
  apply flotillaref08_Noughts_sound
  unfold flotillaref08_Noughts_x
  obtain ⟨i, hi, hz, hs, hb⟩ := inf5
  refine st_make u51 hi hz hs hb (by omega) (by omega) hU hO ?_
  intro g w1 hU1 hO1 hg
  have hr : Rd w1 1 (.slice (some ⟨g, 0, none⟩) n n) n (bytesV (List.replicate n 0)) := rd_row (hO1.at_ 0 rfl) (by simp [bytesV]) (Nat.le_refl _) (by
    rw [Nat.mul_one, show (Value.int .u8 0).cells = #[Value.int .u8 0] from rfl, toList_madeCells_one]
    simp [bytesV])
  rw [st_str hr]
  exact ⟨rfl, hU1, hO1.sub (by simp)⟩
theorem refNew_spec (hU : Upd W w ks) (hO : Owns w F) (n : Int) : CallsR Try.prog 18 #[.int .i64 n] w fun r w' => Upd W w' ks ∧ Owns w' F ∧
    ((¬ sizeOk n ∧ r = .tuple #[.agg (refC []).toArray, .bool false]) ∨ (sizeOk n ∧ r = .tuple #[.agg (refC (List.replicate n.toNat 0)).toArray, .bool true])) := by
  apply flotillaref08_New_sound
  unfold flotillaref08_New_x
  refine st_alloc ze56 hU hO ?_
  intro g w1 hU1 hO1 hg
  have fin : ∀ (s : List UInt8) (w1 : World) (b : Bool), Upd W w1 ks → Owns w1 ((g, .cells (refC []).toArray 56 (0, 0)) :: F) → ((¬ sizeOk n ∧ s = [] ∧ b = false) ∨ (sizeOk n ∧ s = List.replicate n.toNat 0 ∧ b = true)) →
      (std Try.prog).step (sStore 56 (.pointer (some ⟨g, 0, none⟩)) (.agg (refC s).toArray)) w1 fun _ w => (std Try.prog).loadR 56 (.pointer (some ⟨g, 0, none⟩)) w fun r_1 => (fun (r : Value) (w' : World) => Upd W w' ks ∧ Owns w' F ∧
      ((¬ sizeOk n ∧ r = .tuple #[.agg (refC []).toArray, .bool false]) ∨ (sizeOk n ∧ r = .tuple #[.agg (refC (List.replicate n.toNat 0)).toArray, .bool true]))) (Value.tuple #[r_1, .bool b]) w := by
    intro s w1 b hU1 hO1 hc
    refine st_storeN (vs := refC s) (by rw [sz56]; rfl) hU1 hO1 0 rfl (Nat.le_refl _) (refC_one s) (.inr hg) ?_
    intro w2 hU2 hO2
    have hO2' : Owns w2 ((g, .cells (refC s).toArray 56 (0, 0)) :: F) := hO2
    refine st_loadR (run_loadVarN (cs := refC s) ag56 (by rw [sz56]; rfl) (cells_read (hO2'.at_ 0 rfl))) ?_
    refine ⟨hU2, hO2'.sub (by simp), ?_⟩
    rcases hc with ⟨h1, rfl, rfl⟩ | ⟨h1, rfl, rfl⟩
    · exact .inl ⟨h1, rfl⟩
    · exact .inr ⟨h1, rfl⟩
  have hO1' : Owns w1 ((g, .cells (refC []).toArray 56 (0, 0)) :: F) := hO1
  simp (disch := first | assumption | omega) only [PX, BX, flotillaref08_New_k1, step_run (build_ref0 _)]
  refine ⟨fun h => fin [] w1 false hU1 hO1' (.inl ⟨fun ho => by unfold sizeOk at ho; omega, rfl, rfl⟩), fun h0 => ⟨fun h => fin [] w1 false hU1 hO1' (.inl ⟨fun ho => by unfold sizeOk at ho; omega, rfl, rfl⟩), fun h1 => ⟨fun h => fin [] w1 false hU1 hO1' (.inl ⟨fun ho => h (by rw [tmod64 (by omega)]; exact ho.2.2), rfl, rfl⟩), fun h2 => ?_⟩⟩⟩
  have hok : sizeOk n := ⟨by omega, by omega, by rw [← tmod64 (by omega)]; exact Decidable.not_not.1 h2⟩
  obtain ⟨k, rfl⟩ : ∃ k : Nat, n = k := ⟨n.toNat, by omega⟩
  refine st_call (Noughts_spec hU1 hO1' (by omega)) ?_
  rintro _ w2 ⟨rfl, hU2, hO2⟩
  rw [step_run (build_ref _ _)]
  exact fin (List.replicate k 0) w2 true hU2 hO2 (.inr ⟨hok, by rw [Int.toNat_natCast], rfl⟩)
end Go.Proofs.Ytplpjikcgheiiaa

/- Logs: the reference's Open and Last. -/
namespace Go.Proofs.Ytplpjikcgheiiaa.Wal
open Go Go.Proofs.Ytplpjikcgheiiaa Go.Proofs.Ytplpjikcgheiiaa.Rec Xf Go.RowKit
set_option linter.unusedVariables false
set_option linter.unusedSimpArgs false
set_option maxRecDepth 100000

/-- the reference's log -/
def rlC (hand st : Int) (x : Value) : List Value := [.int .i64 hand, .int .i64 st, .int .i64 0, .int .i64 0, .bool false, x]
theorem rlC_one {hand st : Int} {x : Value} (hx : x.oneCell' = true) : ∀ u ∈ rlC hand st x, u.oneCell' = true := by
  intro u hu
  simp only [rlC, List.mem_cons, List.not_mem_nil, or_false] at hu
  rcases hu with h | h | h | h | h | h <;> subst h <;> first | rfl | exact hx
theorem build_rl0 (w : World) : (sBuild 64 []).run Try.prog w = .ok (.value (.agg (rlC 0 0 (.slice none 0 0)).toArray)) w := by kernel_rfl
theorem build_rl (hand st : Int) (A : Option Addr) (n c : Nat) (w : World) : (sBuild 64 [(0, .int .i64 hand), (1, .int .i64 st), (5, .slice A n c)]).run Try.prog w = .ok (.value (.agg (rlC hand st (.slice A n c)).toArray)) w := by kernel_rfl

/-- what the reference's Open answers -/
def ROpen (w : World) (n : Nat) (L : List En) (hand : Int) (u : Value) (w' : World) : Prop := Upd w w' [] ∧
    (((n < 64 ∨ ¬ hands hand) ∧ u = .tuple #[.agg (rlC 0 0 (.slice none 0 0)).toArray, .int .i64 1]) ∨
     (64 ≤ n ∧ hands hand ∧ ∃ x, u = .tuple #[.agg (rlC hand (L.length : Nat) x).toArray, .int .i64 0] ∧ x.oneCell' = true ∧ RdRs w' x (L.map (·.r))))
theorem refOpen_spec {w : World} {B : List UInt8} (hB : B.length ≤ 65536) (hand : Int) : CallsR Try.prog 23 #[.agg (refC B).toArray, .int .i64 hand] w (ROpen w B.length (scanD B).1 hand) := by
  apply flotillaref09_Open_sound
  unfold flotillaref09_Open_x flotillaref09_Open_k1
  refine st_box (Upd.refl w []) (Owns.nil w) ?_
  intro g w1 hU1 hO1 hg
  refine st_alloc ze64 hU1 hO1 ?_
  intro g2 w2 hU2 hO2 hg2
  have hO2 : Owns w2 [(g2, .cells (rlC 0 0 (.slice none 0 0)).toArray 64 (0, 0)), (g, .cells (refC B).toArray 56 (0, 0))] := hO2
  have c0 : w2.cell? ⟨g, 0, none⟩ = some (.string ⟨B.toArray⟩) := cell_at (hO2.at_ 1 rfl)
  have fin : ∀ (K : Value → World → Prop) (e h s : Int) (x : Value) (w3 : World) (R : List (Nat × Obj)), x.oneCell' = true → Upd w w3 [] → Owns w3 ((g2, .cells (rlC 0 0 (.slice none 0 0)).toArray 64 (0, 0)) :: R) → (∀ w4, Upd w w4 [] → Owns w4 R → K (.tuple #[.agg (rlC h s x).toArray, .int .i64 e]) w4) →
      (std Try.prog).step (sStore 64 (.pointer (some ⟨g2, 0, none⟩)) (.agg (rlC h s x).toArray)) w3 fun _ w => (std Try.prog).loadR 64 (.pointer (some ⟨g2, 0, none⟩)) w fun r => K (.tuple #[r, .int .i64 e]) w := by
    intro K e h s x w3 R hx hU3 hO3 hK
    refine st_storeN (vs := rlC h s x) (by rw [sz64]; rfl) hU3 hO3 0 rfl (Nat.le_refl _) (rlC_one hx) (.inr hg2) ?_
    intro w4 hU4 hO4
    have hO4 : Owns w4 ((g2, .cells (rlC h s x).toArray 64 (0, 0)) :: R) := hO4
    refine st_loadR (run_loadVarN (cs := rlC h s x) ag64 (by rw [sz64]; rfl) (cells_read (hO4.at_ 0 rfl))) ?_
    exact hK w4 hU4 (hO4.sub (List.sublist_cons_self _ _))
  simp (disch := first | assumption | omega) only [PX, BX, LX, add_mk, Nat.reduceAdd, size_mk]
  refine ⟨fun h => ?_, fun h0 => ⟨fun h => ?_, fun h1 => ⟨fun h => ?_, fun h2 => ?_⟩⟩⟩
  · rw [step_run (build_rl0 _)]
    refine fin (ROpen w B.length (scanD B).1 hand) 1 0 0 (.slice none 0 0) w2 _ rfl hU2 hO2 ?_
    exact fun w4 h4 _ => ⟨h4, .inl ⟨.inl (by omega), rfl⟩⟩
  · rw [step_run (build_rl0 _)]
    refine fin (ROpen w B.length (scanD B).1 hand) 1 0 0 (.slice none 0 0) w2 _ rfl hU2 hO2 ?_
    exact fun w4 h4 _ => ⟨h4, .inl ⟨.inr (fun hh => by have := hh.1; omega), rfl⟩⟩
  · rw [step_run (build_rl0 _)]
    refine fin (ROpen w B.length (scanD B).1 hand) 1 0 0 (.slice none 0 0) w2 _ rfl hU2 hO2 ?_
    exact fun w4 h4 _ => ⟨h4, .inl ⟨.inr (fun hh => by have := hh.2; omega), rfl⟩⟩
  obtain ⟨k, rfl⟩ : ∃ k : Nat, hand = k := ⟨hand.toNat, by omega⟩
  have hk : k < 8 := by omega
  have cU : w2.cell? ⟨g, 1 + k * 3, none⟩ = some (.bool false) := by
    have := cells_read (hO2.at_ 1 rfl) (1 + k * 3) _ (refC_at B hk).1
    rwa [add_mk, Nat.zero_add] at this
  simp (disch := first | assumption | omega) only [PX, BX, LX, add_mk, Nat.reduceAdd, Nat.zero_add, Nat.add_zero]
  rw [step_run (run_sLoad (run_loadVarN (cs := refC B) ag56 (by rw [sz56]; rfl) (cells_read (hO2.at_ 1 rfl))))]
  refine st_call (rRead_spec (B := B) (cs := refC B) rfl rfl hB hO2) ?_
  rintro x w3 ⟨rows, ho, hk', hU3, hrow, hout, hO3, hfr⟩
  obtain ⟨A, c, rfl⟩ := RowH.isSl hrow
  simp only [PX]
  rw [step_run (build_rl _ _ _ _ _ _)]
  have hO3' : Owns w3 ((g2, .cells (rlC 0 0 (.slice none 0 0)).toArray 64 (0, 0)) :: ((ho ++ hk') ++ [(g, .cells (refC B).toArray 56 (0, 0))])) := hO3.perm (by
    classical
    refine List.perm_iff_count.2 fun y => ?_
    simp only [List.count_cons, List.count_append]
    omega)
  generalize (scanD B).1 = L at *
  rw [List.length_map] at *
  refine fin (ROpen w B.length L k) 0 k (L.length : Nat) (.slice A L.length c) w3 _ rfl (hU2.trans hU3) hO3' ?_
  intro w4 h4 hO4
  refine ⟨h4, .inr ⟨by omega, ⟨by omega, by omega⟩, _, rfl, rfl, ?_⟩⟩
  have := OutH.rd (v := .slice A L.length c) (w := w4) hout (by rw [List.length_map]; exact hrow) (fun p hp => hO4.2 p (List.mem_append_left _ (List.mem_append_left _ hp))) (fun p hp => hO4.2 p (List.mem_append_left _ (List.mem_append_right _ hp)))
  exact this
theorem refLast_spec {w : World} {hand : Int} {x : Value} {L : List Re} (hx : x.oneCell' = true) (hL : RdRs w x L) (hm : L.length ≤ 100000) {st : Nat} (hst : st ≤ L.length) (n : Nat) (hn : n ≤ L.length) :
    CallsR Try.prog 26 #[.agg (rlC hand (st : Nat) x).toArray, .int .i64 (n : Nat)] w fun u w' => u = .int .u64 (lsnAt L n : Nat) ∧ Upd w w' [] := by
  obtain ⟨A, c, rfl, hmx, hE⟩ := hL
  apply flotillaref09_Last_sound
  unfold flotillaref09_Last_x
  refine st_box (Upd.refl w []) (Owns.nil w) ?_
  intro g w1 hU1 hO1 hg
  have c5 : w1.cell? ⟨g, 5, none⟩ = some (.slice A L.length c) := (cell_at (hO1.at_ 0 rfl)).trans rfl
  simp (disch := first | assumption | omega) only [PX, BX, LX, add_mk, Nat.reduceAdd]
  refine ⟨fun h0 => ⟨by unfold lsnAt; rw [if_pos (by omega)]; rfl, hU1⟩, fun h0 => ?_⟩
  have hwr : IntKind.i64.wrap ((n : Int) - 1) = ((n - 1 : Nat) : Int) := by rw [w64 (by omega) (by omega)]; omega
  obtain ⟨a, vt, vd, rfl, hc, -⟩ := hE (n - 1) (by omega)
  have hc1 := hc 1 _ rfl
  simp (disch := first | assumption | omega) only [PX, hwr]
  rw [step_run (run_sLoad (run_loadVar1 ag34 (by rw [hU1.cell (World.block_lt_of_cell? w _ hc1) (by simp)]; exact hc1)))]
  exact ⟨by rw [lsnAt_pos (by omega) (by omega)], hU1⟩
end Go.Proofs.Ytplpjikcgheiiaa.Wal

/- WalReads. -/
namespace Go.Proofs.Ytplpjikcgheiiaa.Wal
open Go Go.Proofs.Ytplpjikcgheiiaa Go.Proofs.Ytplpjikcgheiiaa.Rec Xf Go.RowKit
set_option linter.unusedVariables false
set_option linter.unusedSimpArgs false
set_option maxRecDepth 100000

/-- a slice that isn't empty is copied into a row that is at least as long -/
theorem st_copyTo {P : Program} {w W : World} {K : Value → World → Prop} {t t' e te ty : TypeId} {c : List Bool} {sz n m cap g : Nat} {v : Value} {xs : List Value} {cur : Array Value} {h : List (Nat × Obj)} {ks : List Nat} (ht : P.underlying t = some (.slice e)) (hsz : (P.info? e).map (·.size) = some sz)
    (hU : Upd W w ks) (hO : Owns w h) (i : Nat) (hi : h[i]? = some (g, .cells cur te (0, 0))) (hr : Rd w sz v n xs) (hnm : n ≤ m) (hx : xs ≠ []) (hfit : xs.length ≤ cur.size) (h1 : ∀ u ∈ xs, u.oneCell' = true) (hg : g ∈ ks ∨ W.heap.size ≤ g)
    (hk : ∀ w', Upd W w' ks → Owns w' (h.set i (g, .cells (xs ++ cur.toList.drop xs.length).toArray te (0, 0))) → K (.int .i64 n) w') :
    (std P).step (sBuiltin .copy #[t, t'] ty c [.slice (some ⟨g, 0, none⟩) m cap, v]) w K := by
  obtain ⟨A, cc, rfl, hcc, hl, hrd⟩ := hr
  have hb := hO.at_ i hi
  have hrun : ∀ {u : Value} {w' : World}, (Builtin.copy_ #[t, t'] ty #[.slice (some ⟨g, 0, none⟩) m cap, .slice A n cc]).run P w = .ok u w' → (sBuiltin .copy #[t, t'] ty c [.slice (some ⟨g, 0, none⟩) m cap, .slice A n cc]).run P w = .ok (.value u) w' := by
    intro u w' h
    show (do pure (.value (← Builtin.copy_ #[t, t'] ty #[.slice (some ⟨g, 0, none⟩) m cap, .slice A n cc])) : Sem Next).run P w = _
    rw [Sem.run_bind, h]; rfl
  obtain ⟨x, xs', rfl⟩ := List.exists_cons_of_ne_nil hx
  obtain ⟨a, rfl, _⟩ := hrd 0 x rfl
  have hsrc : ∀ j u, (x :: xs')[j]? = some u → w.cell? (a.add j) = some u := fun j u hj => by
    obtain ⟨a', ha, hc⟩ := hrd j u hj
    injection ha with ha; subst ha; exact hc
  have := run_copyN (P := P) w t t' ty e sz g 0 m cap a n cc cur te (x :: xs') ht hsz hb (by rw [show Nat.min n m = n from Nat.min_eq_left hnm]; exact hl) hsrc (by simpa using hfit) h1
  rw [show Nat.min n m = n from Nat.min_eq_left hnm] at this
  rw [step_run (hrun this)]
  have e : (cur.toList.take 0 ++ (x :: xs') ++ cur.toList.drop (0 + (x :: xs').length)).toArray = ((x :: xs') ++ cur.toList.drop (x :: xs').length).toArray := by simp
  rw [e]
  exact hk _ (hU.then_ (Upd.setRow _ _ _) fun y hy => by simp at hy; subst hy; exact hg) (hO.setRow i hi _)

theorem WalReads_spec (W : World) (v : Value) (l : List UInt8) (hl : l.length ≤ 140737488351232) (hr : Rd W 1 v l.length (bytesV l)) (hand : Int) : CallsR Try.prog 4 #[v, .int .i64 hand] W fun r w' => r = .bool true ∧ Upd W w' [] := by
  apply flotillalaw09_WalReads_sound
  unfold flotillalaw09_WalReads_x flotillalaw09_WalReads_k1 flotillalaw09_WalReads_k2 flotillalaw09_WalReads_k3
  obtain ⟨A, c, rfl, hc⟩ := hr
  have hr : Rd W 1 (.slice A l.length c) l.length (bytesV l) := ⟨A, c, rfl, hc⟩
  simp (disch := omega) only [PX, BX, w64]
  refine ⟨fun _ => st_call (lives_spec (Upd.refl W [])) fun _ _ h => h, fun h1 => ⟨fun _ => st_call (lives_spec (Upd.refl W [])) fun _ _ h => h, fun h2 => ?_⟩⟩
  have hsize : IntKind.i64.wrap (IntKind.i64.wrap (((l.length : Int) + 63).tdiv 64) * 64) = ((up64 l.length : Nat) : Int) := by
    rw [Int.tdiv_eq_ediv_of_nonneg (by omega), w64 (a := ((l.length : Int) + 63) / 64) (by omega) (by omega), w64 (by omega) (by omega)]
    unfold up64; omega
  rw [hsize]
  have hpl := padB_len l
  generalize hN : up64 l.length = N at *
  have hN1 : 64 ≤ N ∧ N ≤ 4096 ∧ N % 64 = 0 ∧ l.length ≤ N := by rw [← hN]; unfold up64; omega
  have hsz : sizeOk (N : Nat) := ⟨by omega, by omega, by omega⟩
  refine st_call (New_spec (Upd.refl W []) (Owns.nil W) ((N : Nat) : Int)) ?_
  rintro _ w1 ⟨hU1, ⟨hn, -⟩ | ⟨-, dv, hd, rfl, hD, hO1, hfd⟩⟩
  · exact absurd hsz hn
  rw [Int.toNat_natCast] at hD
  simp only [PX]
  refine st_call (refNew_spec hU1 hO1 ((N : Nat) : Int)) ?_
  rintro _ w2 ⟨hU2, hO2, ⟨hn, -⟩ | ⟨-, rfl⟩⟩
  · exact absurd hsz hn
  rw [Int.toNat_natCast]
  simp only [PX]
  refine st_alloc ze56 hU2 hO2 ?_
  intro gx w3 hU3 hO3 hgx
  have hO3 : Owns w3 ((gx, .cells (refC []).toArray 56 (0, 0)) :: (hd ++ [])) := hO3
  refine st_storeN (vs := refC (List.replicate N 0)) (by rw [sz56]; rfl) hU3 hO3 0 rfl (Nat.le_refl _) (refC_one _) (.inr hgx) ?_
  intro w4 hU4 hO4
  have hO4 : Owns w4 ((gx, .cells (refC (List.replicate N 0)).toArray 56 (0, 0)) :: (hd ++ [])) := hO4
  obtain ⟨i, hi, hz, hs, hb⟩ := inf5
  refine st_make u51 hi hz hs hb (by omega) (by omega) hU4 hO4 ?_
  intro ga w5 hU5 hO5 hga
  have hnil : bytesV l ≠ [] := by
    intro hh
    have := congrArg List.length hh
    simp [bytesV] at this
    rw [this] at h2; simp at h2
  refine st_copyTo (sz := 1) u51 sz5 hU5 hO5 0 rfl (hr.mono hU5) (by omega) hnil (by rw [size_madeCells]; simp [bytesV]; omega) (bytesV_one l) (.inr hga) ?_
  intro w6 hU6 hO6
  have hrow6 : (bytesV l ++ (madeCells (Value.int .u8 0).cells (N * 1)).toList.drop (bytesV l).length) = bytesV (padB l) := by
    rw [Nat.mul_one, show (Value.int .u8 0).cells = #[Value.int .u8 0] from rfl, toList_madeCells_one]
    have : (64 - l.length % 64) % 64 = N - l.length := by rw [← hN]; unfold up64; omega
    simp [bytesV, padB, this]
  have hO6 : Owns w6 ((ga, .cells (bytesV (padB l)).toArray 5 (0, 0)) :: ((gx, .cells (refC (List.replicate N 0)).toArray 56 (0, 0)) :: (hd ++ []))) := by
    rw [← hrow6]; exact hO6
  obtain ⟨gd, rfl⟩ : ∃ gd, dv = .pointer (some gd) := by obtain ⟨g, vb, vs, hb, hu, rfl, _⟩ := id hD; exact ⟨_, rfl⟩
  simp only [PX, BX]
  have hrd6 : Rd w6 1 (.slice (some ⟨ga, 0, none⟩) N N) N (bytesV (padB l)) := rd_row (hO6.at_ 0 rfl) (by simp [bytesV, hpl]) (Nat.le_refl _) (by simp [List.take_of_length_le, bytesV, hpl])
  have hok : DvOk (newD N) := DvOk.new hN1.2.2.1 (by omega)
  have hP6 : Owns w6 (hd ++ [(ga, .cells (bytesV (padB l)).toArray 5 (0, 0)), (gx, .cells (refC (List.replicate N 0)).toArray 56 (0, 0))]) := hO6.perm (by
    classical
    refine List.perm_iff_count.2 fun y => ?_
    simp only [List.count_cons, List.count_append, List.count_nil]
    omega)
  refine st_call (Start_spec (b := padB l) hok hD hP6 hU6 (fun p hp => .inr (hfd p hp)) (by rw [hpl]; exact hrd6) (by omega) 0 0 ⟨by omega, by omega⟩) ?_
  have hst : startD (newD N) 0 0 (padB l) = (⟨List.replicate N 0, (newD N).up.set 0 (some (0, padB l))⟩, 0) :=
    startD_free (a := 0) (hand := 0) (b := padB l) (by decide) rfl (by omega) (by omega) (by simp [newD]; omega) rfl
  rw [hst]
  rintro _ w7 ⟨rfl, hU7, hd7, hD7, hO7, hf7⟩
  simp only [PX, BX]
  refine ⟨fun h => absurd rfl h, fun _ => ?_⟩
  have hok7 := hok.start 0 0 (padB l)
  rw [hst] at hok7
  refine st_call (Finish_spec hok7 hD7 hO7 hU7 hf7 0) ?_
  have hen : endD ⟨List.replicate N 0, (newD N).up.set 0 (some (0, padB l))⟩ 0 (-1) = (⟨padB l, List.replicate 8 none⟩, 0) := by
    rw [endD_some (hand := 0) (a := 0) (b := padB l) (by decide) rfl]
    have e1 : putB (List.replicate N 0) 0 (padB l) (cutL (padB l).length (-1)) = padB l := by
      unfold putB cutL
      rw [if_pos (by omega), hpl]
      simp [List.take_of_length_le, hpl]
    simp only
    rw [e1]
    rfl
  have hok8 := hok7.end_ 0 (-1)
  rw [hen] at hok8 ⊢
  rintro _ w8 ⟨rfl, hU8, hd8, hD8, hO8, hf8⟩
  simp only [PX, BX]
  refine ⟨fun h => absurd rfl h, fun _ => ?_⟩
  have hO8 : Owns w8 ((gx, .cells (refC (List.replicate N 0)).toArray 56 (0, 0)) :: (ga, .cells (bytesV (padB l)).toArray 5 (0, 0)) :: hd8) := hO8.perm (by
    classical
    refine List.perm_iff_count.2 fun y => ?_
    simp only [List.count_cons, List.count_append, List.count_nil]
    omega)
  have hrd8 : Rd w8 1 (.slice (some ⟨ga, 0, none⟩) N N) N (bytesV (padB l)) := rd_row (hO8.at_ 1 rfl) (by simp [bytesV, hpl]) (Nat.le_refl _) (by simp [List.take_of_length_le, bytesV, hpl])
  rw [st_str hrd8]
  refine st_storeB sz9 rfl hU8 hO8 0 rfl (by simp [refC]) (.inr (Nat.zero_le _)) (.inr hgx) ?_
  intro w9 hU9 hO9
  generalize hG : (gx, Obj.cells (refC (padB l)).toArray 56 (0, 0)) :: (ga, .cells (bytesV (padB l)).toArray 5 (0, 0)) :: hd8 = G
  have hO9 : Owns w9 G := by rw [← hG]; exact hO9
  have hmx : (gx, Obj.cells (refC (padB l)).toArray 56 (0, 0)) ∈ G := by rw [← hG]; simp
  have hmd : ∀ p ∈ hd8, p ∈ G := fun p hp => by rw [← hG]; exact List.mem_cons_of_mem _ (List.mem_cons_of_mem _ hp)
  clear hO8 hrd8
  have hld : ∀ w', stands w' G → (sLoad 56 (.pointer (some ⟨gx, 0, none⟩))).run Try.prog w' = .ok (.value (.agg (refC (padB l)).toArray)) w' := fun w' hs => run_sLoad (run_loadVarN (cs := refC (padB l)) ag56 (by rw [sz56]; rfl) (cells_read (hs _ hmx)))
  have hB : (padB l).length ≤ 65536 := by omega
  have hO10 := hO9.ext (Upd.drew w9 [])
  have hU10 := hU9.then_ (Upd.drew w9 []) (fun x hx => by cases hx)
  have hne : ∃ w', stands w' G := ⟨_, stands.of hO10⟩
  refine st_draw (fun w' => stands w' G) (stands.of hO10) ?_
  rw [stepS_run hne hld]
  refine st_call (Read_log_spec hD8 hB hmd hO10) ?_
  rintro u1 w11 ⟨hU11, hR1⟩
  have hO11 := hO10.ext hU11
  refine st_same (stands.of hO11) ?_
  refine st_call (rRead_spec (B := padB l) (cs := refC (padB l)) rfl rfl hB hO11) ?_
  rintro u2 w12 ⟨rows, ho, hk, hU12, hrow, hout, hO12, -⟩
  have hR2 : RdRs w12 u2 ((scanD (padB l)).1.map (·.r)) := OutH.rd hout hrow (fun p hp => hO12.2 p (List.mem_append_left _ hp)) (fun p hp => hO12.2 p (List.mem_append_right _ (List.mem_append_left _ hp)))
  refine st_keepT (fun _ => True) trivial ?_
  refine st_call (SameRecords_spec w12 u1 u2 _ _ (hR1.mono hU12) hR2) ?_
  rintro _ w13 ⟨rfl, hU13⟩
  refine st_keepT (fun _ => True) trivial ?_
  have hT : ∃ w' : World, (fun _ => True) w' := ⟨w13, trivial⟩
  rw [stepS_run hT fun w' _ => r_not, decide_eq_true rfl]
  simp only [Bool.not_true, BX]
  have hO13 : Owns w13 G := (hO11.ext hU12).ext hU13
  have hU13 := hU10.then_ ((hU11.trans hU12).trans hU13) (fun x hx => by cases hx)
  clear hR1 hR2 hrow hout hO12
  have hup : ∀ i, (List.replicate 8 (none : Wr)).getD i none = none := fun i => by
    rw [List.getD_eq_getElem?_getD, List.getElem?_replicate]; split <;> rfl
  have hoE : openE ⟨padB l, List.replicate 8 none⟩ hand = if hands hand then 0 else 1 := by
    unfold openE
    by_cases hh : hands hand
    · rw [if_neg (by rintro (h | h); simp only at h; omega; exact h hh), if_pos (hup _), if_pos hh]
    · rw [if_pos (.inr hh), if_neg hh]
  refine st_call (Open_log_spec hok8 hD8 hmd hO13 hU13 hand) ?_
  have hback : ∀ {w' : World} {K : Value → World → Prop}, Upd W w' [] → Owns w' G → (∀ u w2, Upd W w2 [] → Upd w' w2 [] → Rd w2 1 u N (bytesV (padB l)) → K (.tuple #[u, .int .i64 0]) w2) → (std Try.prog).calls 24 #[.pointer (some gd), .int .i64 0, .int .i64 (N : Nat)] w' K := by
    intro w' K hU hO hk
    refine st_call (Read_spec hD8 hB hmd hO (Upd.refl w' []) 0 ((N : Nat) : Int)) ?_
    rintro r w2 ⟨hU2, ⟨hro, -⟩ | ⟨-, vr, hr', rfl, hrr, hO2, -⟩⟩
    · unfold readOut at hro; simp only at hro; omega
    · refine hk vr w2 (hU.then_ hU2 fun x hx => by cases hx) hU2 ?_
      have := hrr.rd hO2
      simpa [List.take_of_length_le, hpl] using this
  rintro _ w14 ⟨hU14, ⟨hn, rfl, hO14⟩ | ⟨he, g2, hl2, rfl, hL, hO14, -⟩⟩
  · have hnh : ¬ hands hand := fun hh => hn (by rw [hoE, if_pos hh])
    rw [hoE, if_neg hnh]
    simp only [PX]
    rw [step_run (hld _ (stands.of hO14))]
    refine st_call (refOpen_spec hB hand) ?_
    rintro _ w15 ⟨hU15, ⟨-, rfl⟩ | ⟨-, hh, -⟩⟩
    · simp only [PX]
      refine st_alloc ze64 (hU14.then_ hU15 fun x hx => by cases hx) (hO14.ext hU15) ?_
      intro g3 w16 hU16 hO16 hg3
      refine st_storeN (vs := rlC 0 0 (.slice none 0 0)) (by rw [sz64]; rfl) hU16 hO16 0 rfl (Nat.le_refl _) (rlC_one rfl) (.inr hg3) ?_
      intro w17 hU17 hO17
      have hO17 := hO17.sub (List.sublist_cons_self _ _)
      simp only [PX, BX]
      refine ⟨fun h => absurd rfl h, fun _ => ?_⟩
      rw [show (true == decide ((1 : Int) ≠ 0)) = true from rfl]
      simp only [BX]
      refine hback hU17 hO17 ?_
      intro u w18 hU18 hUb hrb
      have hO18 := (hO17.ext hUb).ext (Upd.drew w18 [])
      have hU18 := hU18.then_ (Upd.drew w18 []) (fun x hx => by cases hx)
      simp only [PX]
      obtain ⟨Au, cu, rfl, hcu⟩ := hrb
      have hrb : Rd w18 1 (.slice Au N cu) N (bytesV (padB l)) := ⟨Au, cu, rfl, hcu⟩
      have hrb := hrb.mono (Upd.drew w18 [])
      let S5 : World → Prop := fun w' => stands w' G ∧ Rd w' 1 (.slice Au N cu) N (bytesV (padB l))
      have hS5 : S5 w18.drew := ⟨stands.of hO18, hrb⟩
      have hne5 : ∃ w', S5 w' := ⟨_, hS5⟩
      have cx : ∀ w', S5 w' → w'.cell? ⟨gx, 0, none⟩ = some (.string ⟨(padB l).toArray⟩) := fun w' hs => (cell_at (hs.1 _ hmx)).trans rfl
      refine st_draw S5 hS5 ?_
      rw [stepS_run hne5 fun w' hs => run_str u51 u5 u9 hs.2]
      simp (disch := first | exact hne5 | assumption | omega) only [SX, SLX, BX, add_mk, Nat.reduceAdd]
      refine ⟨fun _ => ?_, fun h => absurd trivial h⟩
      refine st_call (lives_spec hU18) ?_
      rintro _ w19 ⟨rfl, hU19⟩
      refine st_keepT (fun _ => True) trivial ?_
      exact ⟨rfl, hU19⟩
    · exact absurd hh hnh
  · have hh : hands hand := by
      by_cases hh : hands hand
      · exact hh
      · rw [hoE, if_neg hh] at he; cases he
    simp only [PX]
    have hO14' : Owns w14 (hl2 ++ G) := hO14
    have hG14 : Owns w14 G := hO14.sub (List.sublist_append_right _ _)
    rw [step_run (hld _ (stands.of hG14))]
    refine st_call (refOpen_spec hB hand) ?_
    rintro _ w15 ⟨hU15, ⟨hx, -⟩ | ⟨-, -, x, rfl, hx1, hxR⟩⟩
    · rcases hx with hx | hx
      · omega
      · exact absurd hh hx
    simp only [PX]
    refine st_alloc ze64 (Upd.refl w15 []) (hO14'.ext hU15) ?_
    intro g3 w16 hU16 hO16 hg3
    refine st_storeN (vs := rlC hand ((scanD (padB l)).1.length : Nat) x) (by rw [sz64]; rfl) hU16 hO16 0 rfl (Nat.le_refl _) (rlC_one hx1) (.inr hg3) ?_
    intro w17 hU17 hO17
    generalize hGG : (g3, Obj.cells (rlC hand ((scanD (padB l)).1.length : Nat) x).toArray 64 (0, 0)) :: (hl2 ++ G) = GG
    have hO17 : Owns w17 GG := by rw [← hGG]; exact hO17
    have hsub : ∀ {w' : World}, Owns w' GG → Owns w' G := fun ho => by rw [← hGG] at ho; exact ho.sub ((List.sublist_append_right _ _).trans (List.sublist_cons_self _ _))
    have hml : ∀ p ∈ hl2, p ∈ GG := fun p hp => by rw [← hGG]; exact List.mem_cons_of_mem _ (List.mem_append_left _ hp)
    have hm3 : (g3, Obj.cells (rlC hand ((scanD (padB l)).1.length : Nat) x).toArray 64 (0, 0)) ∈ GG := by rw [← hGG]; simp
    have hmxx : (gx, Obj.cells (refC (padB l)).toArray 56 (0, 0)) ∈ GG := by rw [← hGG]; exact List.mem_cons_of_mem _ (List.mem_append_right _ hmx)
    have hxR := hxR.mono hU17
    have hU17 := (hU14.then_ hU15 (fun x hx => by cases hx)).then_ hU17 (fun x hx => by cases hx)
    simp only [PX, BX]
    refine ⟨fun h => absurd rfl h, fun _ => ?_⟩
    rw [show (false == decide ((0 : Int) ≠ 0)) = true from rfl]
    simp only [BX]
    refine hback hU17 (hsub hO17) ?_
    intro u w18 hU18 hUb hrb
    have hO18 := (hO17.ext hUb).ext (Upd.drew w18 [])
    have hU18 := hU18.then_ (Upd.drew w18 []) (fun x hx => by cases hx)
    have hxR := (hxR.mono hUb).mono (Upd.drew w18 [])
    simp only [PX]
    obtain ⟨Au, cu, rfl, hcu⟩ := hrb
    have hrb : Rd w18 1 (.slice Au N cu) N (bytesV (padB l)) := ⟨Au, cu, rfl, hcu⟩
    have hrb := hrb.mono (Upd.drew w18 [])
    let S5 : World → Prop := fun w' => stands w' GG ∧ Rd w' 1 (.slice Au N cu) N (bytesV (padB l))
    have hS5 : S5 w18.drew := ⟨stands.of hO18, hrb⟩
    have hne5 : ∃ w', S5 w' := ⟨_, hS5⟩
    have cx : ∀ w', S5 w' → w'.cell? ⟨gx, 0, none⟩ = some (.string ⟨(padB l).toArray⟩) := fun w' hs => (cell_at (hs.1 _ hmxx)).trans rfl
    have c35 : ∀ w', S5 w' → w'.cell? ⟨g3, 5, none⟩ = some x := fun w' hs => (cell_at (hs.1 _ hm3)).trans rfl
    have c31 : ∀ w', S5 w' → w'.cell? ⟨g3, 1, none⟩ = some (.int .i64 ((scanD (padB l)).1.length : Nat)) := fun w' hs => (cell_at (hs.1 _ hm3)).trans rfl
    refine st_draw S5 hS5 ?_
    rw [stepS_run hne5 fun w' hs => run_str u51 u5 u9 hs.2]
    simp (disch := first | exact hne5 | assumption | omega) only [SX, SLX, BX, add_mk, Nat.reduceAdd]
    refine ⟨fun _ => ?_, fun h => absurd trivial h⟩
    have fit := openS_fit hok8 he
    have hfl := fit.len
    refine st_call (Records_spec hL hml hO18 fit.ok (by omega)) ?_
    rintro u3 w19 ⟨hU19, hR3⟩
    have hO19 := hO18.ext hU19
    refine st_same ⟨stands.of hO19, hrb.mono hU19⟩ ?_
    refine st_call (SameRecords_spec w19 u3 x _ _ hR3 (hxR.mono hU19)) ?_
    rintro _ w20 ⟨rfl, hU20⟩
    have hO20 := hO19.ext hU20
    have hxR := (hxR.mono hU19).mono hU20
    have hrb := (hrb.mono hU19).mono hU20
    have hU20 := hU18.then_ (hU19.trans hU20) (fun x hx => by cases hx)
    refine st_keepT S5 ⟨stands.of hO20, hrb⟩ ?_
    rw [decide_eq_true (show (openS ⟨padB l, List.replicate 8 none⟩ hand).L.map (·.r) = (scanD (padB l)).1.map (·.r) from rfl)]
    simp only [BX]
    rw [stepS_run hne5 fun w' hs => run_sLoad (run_loadVarN (cs := rlC hand ((scanD (padB l)).1.length : Nat) x) ag64 (by rw [sz64]; rfl) (cells_read (hs.1 _ hm3)))]
    simp (disch := first | exact hne5 | assumption | omega) only [SX, SLX, BX, add_mk, Nat.reduceAdd]
    refine st_call (Stable_spec hL hml hO20 fit.st) ?_
    rintro _ w21 ⟨rfl, rfl⟩
    refine st_same ⟨stands.of hO20, hrb⟩ ?_
    have hlm : ((scanD (padB l)).1.map (·.r)).length = (scanD (padB l)).1.length := List.length_map ..
    have hfl1 : (scanD (padB l)).1.length ≤ 65536 := hfl.1
    refine st_call (refLast_spec hx1 hxR (by omega) (by omega) (scanD (padB l)).1.length (by omega)) ?_
    rintro _ w22 ⟨rfl, hU22⟩
    have hU22 := hU20.then_ hU22 (fun x hx => by cases hx)
    refine st_keepT (fun _ => True) trivial ?_
    have hT : ∃ w' : World, (fun _ => True) w' := ⟨w22, trivial⟩
    simp (disch := first | exact hT | omega) only [SX, BX]
    refine ⟨fun _ => ?_, fun h => absurd rfl h⟩
    refine st_call (lives_spec hU22) ?_
    rintro _ w23 ⟨rfl, hU23⟩
    refine st_keepT (fun _ => True) trivial ?_
    exact ⟨rfl, hU23⟩
end Go.Proofs.Ytplpjikcgheiiaa.Wal
