/- What the functions of devices compute: Start, Flying. -/
import Derived.Test.YtdkahgknoohbpaaS
namespace Go.Proofs.Ytdkahgknoohbpaa
open Go Xf Go.RowKit
set_option linter.unusedVariables false
set_option linter.unusedSimpArgs false
set_option maxRecDepth 100000

variable {w W : World} {ks : List Nat} {F : List (Nat × Obj)}

theorem build_wr (a : Int) (A : Option Addr) (n c : Nat) (w : World) : (sBuild 62 [(0, .int .i64 a), (1, .slice A n c)]).run Try.prog w = .ok (.value (.agg #[.int .i64 a, .slice A n c])) w := by kernel_rfl
theorem setUp (vb x : Value) (vs : List Value) (k : Nat) : (vb :: vs).toArray.setIfInBounds (1 + k) x = (vb :: vs.set k x).toArray := by
  rw [List.setIfInBounds_toArray, Nat.add_comm 1 k, List.set_cons_succ]
/-- of any device: the cell of a hand -/
theorem DevH.hand {d : Dv} {v : Value} {h G : List (Nat × Obj)} (ok : DvOk d) (hd : DevH d v h) (hG : ∀ p ∈ h, p ∈ G) (hO : Owns w G) {k : Nat} (hk : k < 8) : ∃ g x, v = .pointer (some ⟨g, 0, none⟩) ∧ w.cell? ⟨g, 1 + k, none⟩ = some x ∧ WrIn G (d.up.getD k none) x := by
  obtain ⟨g, A, c, rfl, c0, hc, hrd, hup⟩ := hd.cells hG hO
  have hlt : k < d.up.length := by rw [ok.eight]; exact hk
  obtain ⟨x, h1, h2⟩ := hup k (d.up.getD k none) (by rw [List.getD_eq_getElem?_getD, List.getElem?_eq_getElem hlt]; rfl)
  exact ⟨g, x, rfl, h1, h2⟩

theorem Start_nil (w : World) (hand at_ : Int) (vb : Value) : CallsR Try.prog 11 #[.pointer none, .int .i64 hand, .int .i64 at_, vb] w fun r w' => r = .int .i64 1 ∧ w' = w := by
  apply stable_Device_Start_sound
  unfold stable_Device_Start_x
  refine st_call (known_nil w hand) ?_
  rintro _ u' ⟨rfl, hu'⟩
  subst u'
  simp (disch := first | assumption | omega) only [PX, BX, LX, stable_Device_Start_k1]
  trivial

theorem Start_spec {d : Dv} {v vb : Value} {h : List (Nat × Obj)} {b : List UInt8} (ok : DvOk d) (hd : DevH d v h) (hO : Owns w (h ++ F)) (hU : Upd W w ks) (hh : ∀ p ∈ h, p.1 ∈ ks ∨ W.heap.size ≤ p.1) (hb : Rd w 1 vb b.length (bytesV b)) (hbl : b.length ≤ 140737488355328)
    (hand at_ : Int) (hat : -9223372036854775808 ≤ at_ ∧ at_ < 9223372036854775808) : CallsR Try.prog 11 #[v, .int .i64 hand, .int .i64 at_, vb] w fun r w' => r = .int .i64 (startD d hand at_ b).2 ∧ Upd W w' ks ∧
      ∃ h', DevH (startD d hand at_ b).1 v h' ∧ Owns w' (h' ++ F) ∧ ∀ p ∈ h', p.1 ∈ ks ∨ W.heap.size ≤ p.1 := by
  apply stable_Device_Start_sound
  unfold stable_Device_Start_x
  have hsub : ∀ p ∈ h, p ∈ h ++ F := fun p hp => List.mem_append_left _ hp
  obtain ⟨g, A, c, rfl, c0, hc, hrd, hup⟩ := hd.cells hsub hO
  obtain ⟨Ab, cb, rfl, hcb, hlb, hrb⟩ := hb
  refine st_call (known_spec w _ hand) ?_
  rintro _ u' ⟨rfl, hu'⟩
  subst u'
  have same : ∀ e : Int, startD d hand at_ b = (d, e) → (Value.int .i64 e = .int .i64 (startD d hand at_ b).2 ∧ Upd W w ks ∧ ∃ h', DevH (startD d hand at_ b).1 (.pointer (some ⟨g, 0, none⟩)) h' ∧ Owns w (h' ++ F) ∧ ∀ p ∈ h', p.1 ∈ ks ∨ W.heap.size ≤ p.1) :=
    fun e he => by rw [he]; exact ⟨rfl, hU, h, hd, hO, hh⟩
  have hmost := ok.most
  simp (disch := first | assumption | omega) only [PX, BX, bool_dec, stable_Device_Start_k1, stable_Device_Start_k2, LX]
  refine ⟨fun hha => ?_, fun hha => same 1 (if_pos (.inl hha))⟩
  refine ⟨fun h1 => same 1 (if_pos (.inr (.inl h1))), fun h1 => ?_⟩
  have e64 : Int.tmod (b.length : Int) (64 : Int) = ((b.length % 64 : Nat) : Int) := tmod_nat _ 64
  rw [e64]
  refine ⟨fun h2 => same 1 (if_pos (.inr (.inr (.inl (by omega))))), fun h2 => ⟨fun h3 => same 1 (if_pos (.inr (.inr (.inr (by omega))))), fun h3 => ?_⟩⟩
  have hna : ¬ argD hand at_ b := by
    unfold argD
    rintro (hx | hx | hx | hx)
    · exact hx hha
    · exact h1 hx
    · omega
    · omega
  have r2 : (at_ < 0 ∨ (d.B.length : Int) < at_ + b.length) → startD d hand at_ b = (d, 2) := fun hx => by unfold startD; rw [if_neg hna, if_pos hx]
  refine ⟨fun h4 => same 2 (r2 (.inl h4)), fun h4 => ⟨fun h5 => same 2 (r2 (.inr (by omega))), fun h5 => ?_⟩⟩
  rw [w64 (by omega) (by omega)]
  refine ⟨fun h6 => same 2 (r2 (.inr (by omega))), fun h6 => ?_⟩
  have hn2 : ¬ (at_ < 0 ∨ (d.B.length : Int) < at_ + b.length) := by omega
  obtain ⟨k, rfl⟩ : ∃ k : Nat, hand = k := ⟨hand.toNat, by unfold hands at hha; omega⟩
  have hk8 : k < 8 := by unfold hands at hha; omega
  obtain ⟨a, rfl⟩ : ∃ k : Nat, at_ = k := ⟨at_.toNat, by omega⟩
  obtain ⟨_, x, he, cx, hx⟩ := hd.hand ok hsub hO hk8
  injection he with he; injection he with he; injection he with he; subst he
  simp (disch := first | assumption | omega) only [PX, BX, LX, add_mk, Nat.zero_add]
  cases hu : d.up.getD k none with
  | some y =>
    rw [hu] at hx
    obtain ⟨gw, gb, cap, cs, rfl, _⟩ := hx
    simp (disch := first | assumption | omega) only [PX, BX, LX]
    exact same 10 (by unfold startD; rw [if_neg hna, if_neg hn2, Int.toNat_natCast, hu, if_neg (by simp)])
  | none =>
    rw [hu] at hx
    obtain rfl : x = .pointer none := hx
    simp (disch := first | assumption | omega) only [PX, BX, LX]
    have hres : startD d k a b = (⟨d.B, d.up.set k (some (a, b))⟩, 0) := by unfold startD; rw [if_neg hna, if_neg hn2, Int.toNat_natCast, hu, if_pos rfl, Int.toNat_natCast]
    rw [hres]
    have hne : ∃ w' : World, (fun _ : World => True) w' := ⟨w, trivial⟩
    refine st_draw (fun _ => True) trivial ?_
    simp (disch := first | assumption | omega) only [SX, add_mk, Nat.zero_add]
    have hO0 : Owns w.drew (h ++ F) := hO.ext (Upd.drew w [])
    refine st_newRow empty_row (Upd.drew w []) hO0 ?_
    intro g1 w1 hU1 hO1 hg1
    refine st_same trivial ?_
    have hb1 : Rd w1 1 (.slice Ab b.length cb) b.length (bytesV b) := Rd.mono ⟨Ab, cb, rfl, hcb, hlb, hrb⟩ hU1
    refine st_fill hO1 hU1 hg1 hb1 (bytesV_one _) hbl ?_
    intro v' w2 h' hr hO2 hU2 hh2
    refine st_same trivial ?_
    obtain ⟨A', c', rfl, hc'⟩ := hr.sl
    rw [step_run (build_wr _ _ _ _ _)]
    refine st_same trivial ?_
    refine st_box hU2 hO2 ?_
    intro gw w3 hU3 hO3 hgw
    refine st_same trivial ?_
    simp (disch := first | assumption | omega) only [SX, add_mk, Nat.zero_add]
    obtain ⟨g', vb', vs, hb', hu', hv, rfl, hrow, hupin⟩ := hd
    injection hv with hv; injection hv with hv; injection hv with hv; subst hv
    have hO3' : Owns w3 ((g, .cells (vb' :: vs).toArray 60 (0, 0)) :: (((gw, .cells #[.int .i64 (a : Nat), .slice A' b.length c'] 62 (0, 0)) :: h') ++ ((hb' ++ hu') ++ F))) := by
      refine hO3.perm ?_
      exact List.perm_middle (l₁ := (gw, _) :: h')
    have hUW : Upd W w3 ks := hU.then_ hU3 fun x hx => by cases hx
    refine st_storeB (off := 1 + k) sz57 rfl hUW hO3' 0 rfl (by simp [hupin.1]; omega) (.inr (Nat.zero_le _)) (hh (g, _) (.head _)) ?_
    intro w4 hU4 hO4
    refine st_keepT (fun _ => True) trivial ?_
    refine ⟨trivial, hU4, (g, .cells (vb' :: vs.set k (.pointer (some ⟨gw, 0, none⟩))).toArray 60 (0, 0)) :: (hb' ++ (((gw, .cells #[.int .i64 (a : Nat), .slice A' b.length c'] 62 (0, 0)) :: h') ++ hu')), ?_, ?_, ?_⟩
    · refine ⟨g, vb', _, hb', _, rfl, rfl, hrow, (hupin.mono fun p hp => List.mem_append_right _ hp).set hk8 ?_⟩
      rcases hr.2 with ⟨_, hz, _⟩ | ⟨gb, cap, cs, hv', rfl, hn, hcm, hcs, htk⟩
      · omega
      · injection hv' with e1 e2 e3
        subst e1 e3
        exact ⟨gw, gb, c', cs, rfl, by simp, by simp, hn, by simpa using htk⟩
    · rw [setUp] at hO4
      refine hO4.perm ?_
      simp only [List.set_cons_zero, List.cons_append, List.append_assoc]
      refine List.Perm.cons _ ?_
      rw [← List.cons_append, ← List.cons_append]
      exact List.perm_append_comm_assoc _ _ _
    · intro p hp
      simp only [List.mem_cons, List.mem_append] at hp
      rcases hp with rfl | hp | ((rfl | hp) | hp)
      · exact hh (g, .cells (vb' :: vs).toArray 60 (0, 0)) (.head _)
      · exact hh p (.tail _ (List.mem_append_left _ hp))
      · exact .inr (Nat.le_trans hU.size hgw)
      · exact .inr (Nat.le_trans hU.size (hh2 p hp))
      · exact hh p (.tail _ (List.mem_append_right _ hp))

theorem Flying_nil (w : World) (hand : Int) : CallsR Try.prog 18 #[.pointer none, .int .i64 hand] w fun r w' => r = .tuple #[.int .i64 0, .int .i64 0, .bool false] ∧ w' = w := by
  apply stable_Device_Flying_sound
  unfold stable_Device_Flying_x
  refine st_call (known_nil w hand) ?_
  rintro _ u' ⟨rfl, hu'⟩
  subst u'
  simp (disch := first | assumption | omega) only [PX, BX, LX]
  trivial
def flyV (x : Int × Int × Bool) : Value := .tuple #[.int .i64 x.1, .int .i64 x.2.1, .bool x.2.2]
theorem Flying_spec {d : Dv} {v : Value} {h G : List (Nat × Obj)} (ok : DvOk d) (hd : DevH d v h) (hG : ∀ p ∈ h, p ∈ G) (hO : Owns w G) (hU : Upd W w ks) (hand : Int) :
    CallsR Try.prog 18 #[v, .int .i64 hand] w fun r w' => r = flyV (flyD d hand) ∧ Upd W w' ks ∧ Owns w' G := by
  apply stable_Device_Flying_sound
  unfold stable_Device_Flying_x
  obtain ⟨g, A, c, rfl, c0, hc, hrd, hup⟩ := hd.cells hG hO
  refine st_call (known_spec w _ hand) ?_
  rintro _ u' ⟨rfl, hu'⟩
  subst u'
  simp (disch := first | assumption | omega) only [PX, BX, LX]
  refine ⟨fun hha => ?_, fun hha => ⟨by unfold flyD; rw [if_neg hha]; rfl, hU, hO⟩⟩
  obtain ⟨k, rfl⟩ : ∃ k : Nat, hand = k := ⟨hand.toNat, by unfold hands at hha; omega⟩
  have hk8 : k < 8 := by unfold hands at hha; omega
  obtain ⟨_, x, he, cx, hx⟩ := hd.hand ok hG hO hk8
  injection he with he; injection he with he; injection he with he; subst he
  simp (disch := first | assumption | omega) only [PX, BX, LX, add_mk, Nat.zero_add]
  cases hu : d.up.getD k none with
  | none =>
    rw [hu] at hx
    obtain rfl : x = .pointer none := hx
    simp (disch := first | assumption | omega) only [PX, BX, LX]
    exact ⟨by unfold flyD; rw [if_pos hha, Int.toNat_natCast, hu]; rfl, hU, hO⟩
  | some y =>
    obtain ⟨a, b⟩ := y
    rw [hu] at hx
    obtain ⟨gw, gb, cap, cs, rfl, hm1, hm2, _⟩ := hx
    simp (disch := first | assumption | omega) only [PX, BX, LX]
    have hS : Owns w.drew G := hO.ext (Upd.drew w [])
    have hne : ∃ w', (fun w' => Owns w' G) w' := ⟨_, hO⟩
    have q0 : ∀ w', Owns w' G → w'.cell? ⟨g, 1 + k, none⟩ = some (.pointer (some ⟨gw, 0, none⟩)) := fun w' ho => by
      obtain ⟨_, x', he, cx', hx'⟩ := hd.hand ok hG ho hk8
      injection he with he; injection he with he; injection he with he; subst he
      obtain ⟨p, hp1, hp2⟩ : ∃ p, (g, p) ∈ G ∧ ∀ w', Owns w' G → w'.cell? ⟨g, 1 + k, none⟩ = (match p with | .cells cs _ _ => cs[1 + k]? | _ => none) := by
        obtain ⟨g', vb', vs, hb', hu', hv, rfl, hrow, hupin⟩ := hd
        injection hv with hv; injection hv with hv; injection hv with hv; subst hv
        exact ⟨_, hG _ (.head _), fun w' ho => cell_at (ho.2 _ (hG _ (.head _)))⟩
      rw [hp2 w' ho, ← hp2 w hO]; exact cx
    have q1 : ∀ w', Owns w' G → w'.cell? ⟨gw, 0, none⟩ = some (.int .i64 (a : Nat)) := fun w' ho => cell_at (ho.2 _ hm1)
    have q2 : ∀ w', Owns w' G → w'.cell? ⟨gw, 1, none⟩ = some (.slice (some ⟨gb, 0, none⟩) b.length cap) := fun w' ho => cell_at (ho.2 _ hm1)
    refine st_draw (fun w' => Owns w' G) hS ?_
    simp (disch := first | assumption | omega) only [SX, SLX, add_mk, Nat.zero_add]
    exact ⟨by unfold flyD; rw [if_pos hha, Int.toNat_natCast, hu]; rfl, hU.then_ (Upd.drew w []) fun x hx => (by cases hx), hS⟩

/-! what the laws hand in -/
structure Op where
  kind : Int
  hand : Int
  at_ : Int
  n : Int
  fill : UInt8
def opV (o : Op) : List Value := [.int .i64 o.kind, .int .i64 o.hand, .int .i64 o.at_, .int .i64 o.n, .int .u8 o.fill.toNat]
theorem opV_len (o : Op) : (opV o).length = 5 := rfl
theorem opV_one (o : Op) : ∀ u ∈ opV o, u.oneCell' = true := by
  intro u hu; simp [opV] at hu; rcases hu with rfl | rfl | rfl | rfl | rfl <;> rfl
def Ok64 (o : Op) : Prop := in64 o.kind ∧ in64 o.hand ∧ in64 o.at_ ∧ in64 o.n
def longO (o : Op) : Int := if 40 < o.n ∨ o.n < -3000 then -1 else if o.n < 0 then -o.n else 64 * o.n
theorem longO_le (o : Op) : longO o ≤ 3000 ∧ -1 ≤ longO o := by
  unfold longO
  split
  · omega
  · split <;> omega
theorem long_spec (hO : Owns w F) (hU : Upd W w ks) (o : Op) : CallsR Try.prog 9 #[.agg (opV o).toArray] w fun r w' => r = .int .i64 (longO o) ∧ Upd W w' ks ∧ Owns w' F := by
  apply flotillalaw08_long_sound
  unfold flotillalaw08_long_x
  refine st_box hU hO ?_
  intro g w1 hU1 hO1 hg
  have c3 : w1.cell? ⟨g, 3, none⟩ = some (.int .i64 o.n) := cell_at (hO1.at_ 0 rfl)
  have hO2 : Owns w1 F := hO1.sub (by simp)
  simp (disch := first | assumption | omega) only [PX, BX, LX, add_mk, Nat.zero_add]
  unfold longO
  refine ⟨fun h => ⟨by rw [if_pos (.inl h)], hU1, hO2⟩, fun h1 => ⟨fun h => ⟨by rw [if_pos (.inr h)], hU1, hO2⟩, fun h2 => ?_⟩⟩
  rw [if_neg (by omega)]
  refine ⟨fun h => ⟨by rw [if_pos h, w64 (by omega) (by omega)]; congr 1; omega, hU1, hO2⟩, fun h3 => ⟨by rw [if_neg h3, w64 (by omega) (by omega)], hU1, hO2⟩⟩

theorem filled_spec (hO : Owns w F) (hU : Upd W w ks) (n : Nat) (hn : n ≤ 1000000) (fill : UInt8) : CallsR Try.prog 12 #[.int .i64 (n : Nat), .int .u8 fill.toNat] w fun r w' =>
    ∃ h', RowH 5 1 r n (bytesV (List.replicate n fill)) h' ∧ Owns w' (h' ++ F) ∧ Upd W w' ks ∧ ∀ p ∈ h', W.heap.size ≤ p.1 := by
  apply flotillalaw08_filled_sound
  unfold flotillalaw08_filled_x
  obtain ⟨i, hi, hz, hs, hb⟩ := inf5
  refine st_make u34 hi hz hs hb (by omega) (by omega) hU hO ?_
  intro g w1 hU1 hO1 hg
  have e0 : madeCells (Value.int .u8 0).cells (n * 1) = ((List.replicate 0 (Value.int .u8 fill.toNat)) ++ List.replicate (n - 0) (Value.int .u8 0)).toArray := by
    apply Array.ext'
    rw [Nat.mul_one, show (Value.int .u8 0).cells = #[Value.int .u8 0] from rfl, toList_madeCells_one]
    simp
  rw [e0] at hO1
  refine st_loop (fun vs w' => ∃ i : Nat, i ≤ n ∧ vs.getD 0 undef = .int .i64 (i : Nat) ∧ Upd W w' ks ∧ Owns w' ((g, .cells ((List.replicate i (Value.int .u8 fill.toNat)) ++ List.replicate (n - i) (Value.int .u8 0)).toArray 5 (0, 0)) :: F))
    (fun vs _ => n - (match vs.getD 0 undef with | .int _ m => m.toNat | _ => 0)) ⟨0, Nat.zero_le _, rfl, hU1, hO1⟩ ?_
  rintro dv vs w2 - ⟨i, hin, ei, hU2, hO2⟩
  simp (disch := first | assumption | omega) only [ei, PX, BX]
  refine ⟨fun hlt => ?_, fun hge => ?_⟩
  · have hlt' : i < n := by omega
    simp (disch := first | assumption | omega) only [PX, BX, add_mk, Nat.zero_add]
    refine st_storeB (off := i) sz5 rfl hU2 hO2 0 rfl (by simp; omega) (.inr (Nat.zero_le _)) (.inr hg) ?_
    intro w3 hU3 hO3
    rw [w64 (by omega) (by omega)]
    refine ⟨⟨i + 1, hlt', by simp, hU3, ?_⟩, ?_⟩
    · have e : ((List.replicate i (Value.int .u8 fill.toNat)) ++ List.replicate (n - i) (Value.int .u8 0)).toArray.setIfInBounds i (Value.int .u8 fill.toNat) = ((List.replicate (i + 1) (Value.int .u8 fill.toNat)) ++ List.replicate (n - (i + 1)) (Value.int .u8 0)).toArray := by
        rw [List.setIfInBounds_toArray, List.set_append_right _ _ (by simp)]
        congr 1
        rw [List.length_replicate, Nat.sub_self, show n - i = (n - (i + 1)) + 1 by omega, List.replicate_succ, List.set_cons_zero, List.replicate_succ', List.append_assoc]
        rfl
      rw [e] at hO3
      exact hO3
    · show n - ((i : Int) + 1).toNat < n - ((i : Int)).toNat
      rw [show ((i : Int) + 1).toNat = i + 1 by omega, Int.toNat_natCast]
      omega
  · obtain rfl : i = n := by omega
    unfold flotillalaw08_filled_k1
    refine ⟨_, ⟨by simp [bytesV], .inr ⟨g, i, _, rfl, rfl, Nat.le_refl _, by unfold maxLen; omega, by simp, ?_⟩⟩, hO2, hU2, fun p hp => ?_⟩
    · simp [bytesV]
    · simp at hp; subst hp; exact hg
end Go.Proofs.Ytdkahgknoohbpaa
