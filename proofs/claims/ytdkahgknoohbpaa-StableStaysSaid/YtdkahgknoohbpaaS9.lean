/- StableStays. -/
import Derived.Test.YtdkahgknoohbpaaS10
namespace Go.Proofs.Ytdkahgknoohbpaa
open Go Xf Go.RowKit
set_option linter.unusedVariables false
set_option linter.unusedSimpArgs false
set_option maxRecDepth 100000

variable {w W : World} {ks : List Nat} {F : List (Nat × Obj)}

/-- a sector stands, and nothing that is under way meets it -/
structure Keeps (d : Dv) (p : Nat) (f : UInt8) : Prop where
  ok : DvOk d
  len : d.B.length = 4096
  byte : ∀ i, 64 * p ≤ i → i < 64 * p + 64 → d.B[i]? = some f
  off : ∀ (k : Nat) (a : Nat) (b : List UInt8), d.up[k]? = some (some (a, b)) → a + b.length ≤ 64 * p ∨ 64 * p + 64 ≤ a
theorem Keeps.start {d : Dv} {p : Nat} {f : UInt8} (h : Keeps d p f) (hand at_ : Int) (b : List UInt8) (hd : 0 ≤ at_ → at_.toNat + b.length ≤ 64 * p ∨ 64 * p + 64 ≤ at_.toNat) : Keeps (startD d hand at_ b).1 p f := by
  refine ⟨h.ok.start _ _ _, by rw [start_len]; exact h.len, fun i h1 h2 => by rw [start_len]; exact h.byte i h1 h2, ?_⟩
  intro k a c hk
  by_cases hz : (startD d hand at_ b).2 = 0
  · obtain ⟨s1, s2, s3, s4, s5, s6, s7, s8⟩ := start_ok hz
    rw [s8] at hk
    by_cases he : hand.toNat = k
    · subst he
      rw [List.getElem?_set] at hk
      simp at hk
      obtain ⟨_, rfl, rfl⟩ := hk
      exact hd s2
    · dsimp only at hk
      rw [List.getElem?_set_ne he] at hk
      exact h.off k a c hk
  · have : (startD d hand at_ b).1 = d := by
      unfold startD at hz ⊢
      split
      · rfl
      · rename_i h1
        rw [if_neg h1] at hz
        split
        · rfl
        · rename_i h2
          rw [if_neg h2] at hz
          split
          · rename_i h3
            rw [if_pos h3] at hz
            exact absurd rfl hz
          · rfl
    rw [this] at hk
    exact h.off k a c hk
theorem Keeps.end_ {d : Dv} {p : Nat} {f : UInt8} (h : Keeps d p f) (hand most : Int) : Keeps (endD d hand most).1 p f := by
  refine ⟨h.ok.end_ _ _, by rw [end_len h.ok]; exact h.len, ?_, ?_⟩
  · intro i h1 h2
    unfold endD
    split
    · split
      · rename_i a b he
        have he := getD_some he
        obtain ⟨f1, f2, f3, f4⟩ := h.ok.fits _ a b he
        have hoff := h.off _ a b he
        have hc := cutL_le b.length most
        show (putB d.B a b (cutL b.length most))[i]? = _
        rw [putB_get f4 hc, if_neg (by omega)]
        exact h.byte i h1 h2
      · exact h.byte i h1 h2
    · exact h.byte i h1 h2
  · intro k a c hk
    unfold endD at hk
    split at hk
    · split at hk
      · dsimp only at hk
        by_cases he : hand.toNat = k
        · subst he
          rw [List.getElem?_set] at hk
          simp at hk
        · rw [List.getElem?_set_ne he] at hk
          exact h.off k a c hk
      · exact h.off k a c hk
    · exact h.off k a c hk
theorem Keeps.trim {d : Dv} {p : Nat} {f : UInt8} (h : Keeps d p f) (at_ : Int) (hp : ((64 * p : Nat) : Int) < at_) : Keeps (trimD d at_).1 p f := by
  have hok := h.ok.trim at_
  unfold trimD at hok ⊢
  split
  · exact h
  · rename_i hn
    rw [if_neg hn] at hok
    have hle := trim_len h.ok (a := at_.toNat) (by omega)
    have hup : 64 * p + 64 ≤ up64 at_.toNat := by unfold up64; omega
    refine ⟨hok, ?_, ?_, h.off⟩
    · have := h.len
      simp only [List.length_append, List.length_take, List.length_replicate]; omega
    · intro i h1 h2
      show (d.B.take (up64 at_.toNat) ++ _)[i]? = _
      rw [List.getElem?_append_left (by rw [List.length_take]; omega), List.getElem?_take, if_pos (by omega)]
      exact h.byte i h1 h2
theorem Keeps.read {d : Dv} {p : Nat} {f : UInt8} (h : Keeps d p f) : (d.B.drop (64 * p)).take 64 = List.replicate 64 f := by
  apply List.ext_getElem?
  intro i
  rw [List.getElem?_take, List.getElem?_replicate]
  by_cases hi : i < 64
  · rw [if_pos hi, if_pos hi, List.getElem?_drop]
    exact h.byte _ (by omega) (by omega)
  · rw [if_neg hi, if_neg hi]

def IS (W : World) (l : List Op) (v : Value) (p : Nat) (f : UInt8) (us : List Value) (w' : World) : Prop :=
  ∃ (i : Nat) (d : Dv) (h : List (Nat × Obj)), i ≤ l.length ∧ i ≤ 60 ∧ us.getD 0 undef = .int .i64 (i : Nat) ∧ Upd W w' [] ∧ Keeps d p f ∧ DevH d v h ∧ Owns w' (h ++ []) ∧ ∀ p ∈ h, W.heap.size ≤ p.1
def MS (us : List Value) : Nat := 60 - (match us.getD 0 undef with | .int _ m => m.toNat | _ => 0)

theorem stays_j2 {l : List Op} {v : Value} {p i : Nat} {f : UInt8} {d : Dv} {h F : List (Nat × Obj)} {us : List Value} {dv : Nat → Value} {vs : List Value} (hp : p ≤ 63) (hk : Keeps d p f) (hd : DevH d v h) (hO : Owns w (h ++ F)) (hU : Upd W w []) (hh : ∀ p ∈ h, W.heap.size ≤ p.1)
    (hi : i < l.length) (h60 : i < 60) (ei : us.getD 0 undef = .int .i64 (i : Nat)) :
    flotillalaw08_StableStays_j2 (std Try.prog) (.int .u8 f.toNat) v [.int .i64 (p : Nat)] us (fun us' w' => IS W l v p f us' w' ∧ MS us' < 60 - ((i : Int)).toNat) dv vs w fun r w' => r = .bool true ∧ Upd W w' [] := by
  unfold flotillalaw08_StableStays_j2
  have hlen := hk.len
  have e64 : IntKind.wrap .i64 (64 * (p : Int)) = ((64 * p : Nat) : Int) := by rw [w64 (by omega) (by omega)]; omega
  simp (disch := first | assumption | omega) only [List.getD_cons_zero, PX, BX, e64]
  refine st_call (Read_spec hd hk.ok.most (fun p hp => List.mem_append_left _ hp) hO hU _ 64) ?_
  rintro _ w1 ⟨hU1, ⟨hro, _⟩ | ⟨_, vr, hr, rfl, hrr, hO1, hhr⟩⟩
  · unfold readOut at hro; omega
  rw [Int.toNat_natCast, show Int.toNat 64 = 64 from rfl, hk.read] at hrr
  have hS := SU.drew hU1 hO1
  have hne : ∃ w', SU W (hr ++ (h ++ F)) w' := ⟨_, hS⟩
  have qr : ∀ w', SU W (hr ++ (h ++ F)) w' → Rd w' 1 vr 64 (bytesV (List.replicate 64 f)) := fun w' hs => hrr.rdIn fun p hp => hs.2.2 p (List.mem_append_left _ hp)
  simp (disch := first | assumption | omega) only [PX]
  refine st_draw (SU W (hr ++ (h ++ F))) hS ?_
  simp (disch := first | assumption | omega) only [SX, BX, sst_str hne qr]
  refine ⟨fun h => absurd rfl h, fun _ => ?_⟩
  refine st_call (filled_spec hS.2 hS.1 64 (by decide) f) ?_
  rintro v2 w2 ⟨h2, hr2, hO2, hU2, hh2⟩
  refine st_keepS (fun w' => SU W (hr ++ (h ++ F)) w' ∧ Owns w' (h2 ++ (hr ++ (h ++ F)))) (fun _ h => h.1) ⟨⟨hU2, hO2.sub (List.sublist_append_right _ _)⟩, hO2⟩ ?_
  have hne5 : ∃ w', (fun w' => SU W (hr ++ (h ++ F)) w' ∧ Owns w' (h2 ++ (hr ++ (h ++ F)))) w' := ⟨w2, ⟨hU2, hO2.sub (List.sublist_append_right _ _)⟩, hO2⟩
  have q5 : ∀ w', (fun w' => SU W (hr ++ (h ++ F)) w' ∧ Owns w' (h2 ++ (hr ++ (h ++ F)))) w' → Rd w' 1 v2 64 (bytesV (List.replicate 64 f)) := fun w' hs => hr2.rdIn fun p hp => hs.2.2 p (List.mem_append_left _ hp)
  rw [sst_str hne5 q5]
  simp (disch := first | assumption | omega) only [ei, SX, BX, PX]
  refine ⟨fun _ => ?_, fun h => absurd (by trivial) h⟩
  rw [w64 (by omega) (by omega)]
  refine ⟨⟨i + 1, d, h, hi, by omega, rfl, hU2, hk, hd, hO2.sub ?_, hh⟩, ?_⟩
  · rw [List.append_nil]
    exact (List.sublist_append_left h F).trans ((List.sublist_append_right hr _).trans (List.sublist_append_right h2 _))
  · show 60 - ((i : Int) + 1).toNat < 60 - ((i : Int)).toNat
    rw [show ((i : Int) + 1).toNat = i + 1 by omega, Int.toNat_natCast]
    omega

theorem stays_j4 {l : List Op} {v : Value} {p i : Nat} {f : UInt8} {d : Dv} {h : List (Nat × Obj)} {us : List Value} {dv : Nat → Value} {o : Op} {g10 : Nat} {mb : Bool} (hp : p ≤ 63) (ho : Ok64 o) (hk : Keeps d p f) (hd : DevH d v h) (hO : Owns w (h ++ [(g10, .cells (opV o).toArray 24 (0, 0))])) (hU : Upd W w []) (hh : ∀ p ∈ h, W.heap.size ≤ p.1)
    (hi : i < l.length) (h60 : i < 60) (ei : us.getD 0 undef = .int .i64 (i : Nat)) (hmb : o.kind = 0 → 0 ≤ longO o → 0 ≤ o.at_ → mb = false → o.at_ + longO o ≤ ((64 * p : Nat) : Int) ∨ ((64 * p + 64 : Nat) : Int) ≤ o.at_) :
    flotillalaw08_StableStays_j4 (std Try.prog) (.int .u8 f.toNat) v [.int .i64 (p : Nat)] us (fun us' w' => IS W l v p f us' w' ∧ MS us' < 60 - ((i : Int)).toNat) (.pointer (some ⟨g10, 0, none⟩)) dv [.bool mb] w fun r w' => r = .bool true ∧ Upd W w' [] := by
  unfold flotillalaw08_StableStays_j4
  rw [join_std]
  have e64 : IntKind.wrap .i64 (64 * (p : Int)) = ((64 * p : Nat) : Int) := by rw [w64 (by omega) (by omega)]; omega
  have hF : (g10, Obj.cells (opV o).toArray 24 (0, 0)) ∈ [(g10, Obj.cells (opV o).toArray 24 (0, 0))] := .head _
  generalize [(g10, Obj.cells (opV o).toArray 24 (0, 0))] = F at *
  have last : ∀ (w' : World) (d' : Dv) (h' : List (Nat × Obj)) (dv' : Nat → Value), Keeps d' p f → DevH d' v h' → Owns w' (h' ++ F) → Upd W w' [] → (∀ p ∈ h', W.heap.size ≤ p.1) →
      flotillalaw08_StableStays_j2 (std Try.prog) (.int .u8 f.toNat) v [.int .i64 (p : Nat)] us (fun us' w' => IS W l v p f us' w' ∧ MS us' < 60 - ((i : Int)).toNat) dv' [] w' fun r w' => r = .bool true ∧ Upd W w' [] :=
    fun w' d' h' dv' hk' hd' hO' hU' hh' => stays_j2 hp hk' hd' hO' hU' hh' hi h60 ei
  have third : ∀ (w' : World), Owns w' (h ++ F) → Upd W w' [] → flotillalaw08_StableStays_k3 (std Try.prog) v [.int .i64 (p : Nat)] (.pointer (some ⟨g10, 0, none⟩)) (fun vs w => ∀ (dv : Nat → Value),
      flotillalaw08_StableStays_j2 (std Try.prog) (.int .u8 f.toNat) v [.int .i64 (p : Nat)] us (fun us' w' => IS W l v p f us' w' ∧ MS us' < 60 - ((i : Int)).toNat) dv vs w fun r w' => r = .bool true ∧ Upd W w' []) w' fun r w' => r = .bool true ∧ Upd W w' [] := by
    intro w' hO' hU'
    unfold flotillalaw08_StableStays_k3
    have c0 : w'.cell? ⟨g10, 0, none⟩ = some (.int .i64 o.kind) := by have := box_at (List.mem_append_right h hF) hO' 0 _ rfl; exact this
    have c1 := box1 (List.mem_append_right h hF) hO'
    have c2 := box2 (List.mem_append_right h hF) hO'
    have c3 : w'.cell? ⟨g10, 3, none⟩ = some (.int .i64 o.n) := by have := box_at (List.mem_append_right h hF) hO' 3 _ rfl; rwa [add_mk] at this
    simp (disch := first | assumption | omega) only [PX, BX, LX, add_mk, Nat.zero_add, List.getD_cons_zero, e64]
    refine ⟨fun _ => ?_, fun _ => ⟨fun _ => ?_, fun _ => ⟨fun _ => ⟨fun hat => ?_, fun _ dv' => last w' d h dv' hk hd hO' hU' hh⟩, fun _ dv' => last w' d h dv' hk hd hO' hU' hh⟩⟩⟩
    · refine st_call (Finish_spec hk.ok hd hO' hU' (fresh_nil hh) _) ?_
      rintro _ w2 ⟨rfl, hU2, h2, hd2, hO2, hh2⟩
      exact fun dv' => last w2 _ h2 dv' (hk.end_ _ _) hd2 hO2 hU2 (nil_fresh hh2)
    · refine st_call (Crash_spec hk.ok hd hO' hU' (fresh_nil hh) _ _) ?_
      rintro _ w2 ⟨rfl, hU2, h2, hd2, hO2, hh2⟩
      exact fun dv' => last w2 _ h2 dv' (hk.end_ _ _) hd2 hO2 hU2 (nil_fresh hh2)
    · refine st_call (Trim_spec hk.ok hd hO' hU' (fresh_nil hh) _) ?_
      rintro _ w2 ⟨rfl, hU2, h2, hd2, hO2, hh2⟩
      exact fun dv' => last w2 _ h2 dv' (hk.trim _ hat) hd2 hO2 hU2 (nil_fresh hh2)
  have c0 : w.cell? ⟨g10, 0, none⟩ = some (.int .i64 o.kind) := by have := box_at (List.mem_append_right h hF) hO 0 _ rfl; exact this
  have hcell : ∀ j u, (opV o)[j]? = some u → w.cell? ((⟨g10, 0, none⟩ : Addr).add j) = some u := box_at (List.mem_append_right h hF) hO
  rw [step_run rfa24_0]
  refine st_load ag3 c0 ?_
  rw [step_run r_eql, bool_dec]
  refine ⟨fun k0 => ?_, fun _ => third w hO hU⟩
  rw [ld_op hcell]
  refine st_call (long_spec hO hU o) ?_
  rintro _ w2 ⟨rfl, hU2, hO2⟩
  rw [step_run r_geq, bool_dec]
  refine ⟨fun l0 => ?_, fun _ => third w2 hO2 hU2⟩
  rw [step_run rfa24_2, add_mk, Nat.zero_add]
  refine st_load ag3 (box2 (List.mem_append_right h hF) hO2) ?_
  rw [step_run r_geq, bool_dec]
  refine ⟨fun a0 => ?_, fun _ => third w2 hO2 hU2⟩
  rw [List.getD_cons_zero, step_run r_not]
  cases mb with
  | true => 
    rw [Bool.not_true, bool_false]
    exact third w2 hO2 hU2
  | false =>
    rw [Bool.not_false, bool_true]
    have hS : SU W F w2.drew := ⟨hU2.trans (Upd.drew w2 []), (hO2.ext (Upd.drew w2 [])).sub (List.sublist_append_right _ _)⟩
    have hne : ∃ w', SU W F w' := ⟨_, hS⟩
    have fo : ∀ w', SU W F w' → ∀ j u, (opV o)[j]? = some u → w'.cell? ((⟨g10, 0, none⟩ : Addr).add j) = some u := fun w' hs => box_at hF hs.2
    have f1 : ∀ w', SU W F w' → w'.cell? ⟨g10, 1, none⟩ = some (.int .i64 o.hand) := fun w' hs => box1 hF hs.2
    have f2 : ∀ w', SU W F w' → w'.cell? ⟨g10, 2, none⟩ = some (.int .i64 o.at_) := fun w' hs => box2 hF hs.2
    have f4 : ∀ w', SU W F w' → w'.cell? ⟨g10, 4, none⟩ = some (.int .u8 o.fill.toNat) := fun w' hs => box4 hF hs.2
    refine st_draw (SU W F) hS ?_
    simp (disch := first | assumption | omega) only [SX, SLX, add_mk, Nat.zero_add, sld_op hne fo]
    refine st_begin (K := fun S3 v3 w => ∀ dv', _) (fun _ h => h) hk.ok hd (hO2.ext (Upd.drew w2 [])) hS.1 hh ho l0 ?_
    intro w3 h3 hd3 hO3 hU3 hh3 dv'
    refine last w3 _ h3 dv' (hk.start _ _ _ fun h0 => ?_) hd3 hO3 hU3 hh3
    have := hmb k0 l0 a0 rfl
    rw [List.length_replicate]
    omega

theorem StableStays_spec {lv : Value} {l : List Op} {at_ : Int} {f : UInt8} (hl : RdS W opV 5 lv l) (hok : ∀ o ∈ l, Ok64 o) :
    CallsR Try.prog 4 #[.int .i64 at_, .int .u8 f.toNat, lv] W fun r w' => r = .bool true ∧ Upd W w' [] := by
  apply flotillalaw08_StableStays_sound
  unfold flotillalaw08_StableStays_x
  refine st_call (New_spec (F := []) (Upd.refl W []) (Owns.nil W) 4096) ?_
  rintro _ w1 ⟨hU1, ⟨hn, _⟩ | ⟨_, v, h, rfl, hd, hO1, hh⟩⟩
  · exact absurd (by decide) hn
  rw [show Int.toNat 4096 = 4096 from rfl] at hd
  have ok : DvOk (newD 4096) := DvOk.new (by decide) (by decide)
  have hlen0 : (newD 4096).B.length = 4096 := by simp [newD]
  have hup0 : ∀ (k : Nat) (u : Wr), (newD 4096).up[k]? = some u → u = none := by
    intro k u hk
    simp only [newD, List.getElem?_replicate] at hk
    split at hk <;> cases hk; rfl
  obtain ⟨g, _, _, rfl, _⟩ := hd.cells (fun p hp => List.mem_append_left _ hp) hO1
  obtain ⟨A, c, rfl⟩ := hl.sl
  have main : ∀ (p : Nat) (dv : Nat → Value), p ≤ 63 → flotillalaw08_StableStays_j5 (std Try.prog) (.int .u8 f.toNat) (.slice A l.length c) (.pointer (some ⟨g, 0, none⟩)) dv [.int .i64 (p : Nat)] w1 fun r w' => r = .bool true ∧ Upd W w' [] := by
    intro p dv hp
    unfold flotillalaw08_StableStays_j5
    have e64 : IntKind.wrap .i64 (64 * (p : Int)) = ((64 * p : Nat) : Int) := by rw [w64 (by omega) (by omega)]; omega
    rw [List.getD_cons_zero, step_run r_mul, e64]
    refine st_call (filled_spec hO1 hU1 64 (by decide) f) ?_
    rintro v2 w2 ⟨h2, hr2, hO2, hU2, hh2⟩
    have hO2' : Owns w2 (h ++ (h2 ++ [])) := hO2.perm (List.perm_append_comm_assoc _ _ _)
    refine st_call (Start_spec (b := List.replicate 64 f) ok hd hO2' hU2 (fresh_nil hh) (hr2.rdIn fun p hp => hO2.2 p (List.mem_append_left _ hp)) (by rw [List.length_replicate]; decide) 0 _ (by omega)) ?_
    rintro _ w3 ⟨rfl, hU3, h3, hd3, hO3, hh3⟩
    have est : startD (newD 4096) 0 ((64 * p : Nat) : Int) (List.replicate 64 f) = (⟨(newD 4096).B, (newD 4096).up.set 0 (some (64 * p, List.replicate 64 f))⟩, 0) := by
      have hna : ¬ argD 0 ((64 * p : Nat) : Int) (List.replicate 64 f) := by
        unfold argD
        rw [List.length_replicate]
        rintro (hx | hx | hx | hx)
        · exact hx (by decide)
        · apply hx
          rw [show (64 : Int) = ((64 : Nat) : Int) from rfl, tmod_nat]; omega
        · exact absurd hx (by decide)
        · exact absurd hx (by decide)
      unfold startD
      rw [if_neg hna, if_neg (by rw [List.length_replicate, hlen0]; omega), if_pos (by rfl), Int.toNat_natCast]
      rfl
    rw [est] at hd3 ⊢
    have ok3 := ok.start 0 ((64 * p : Nat) : Int) (List.replicate 64 f)
    rw [est] at ok3
    rw [step_run r_neq, bool_dec]
    refine ⟨fun h => absurd rfl h, fun _ => ?_⟩
    refine st_call (Finish_spec ok3 hd3 hO3 hU3 hh3 0) ?_
    rintro _ w4 ⟨rfl, hU4, h4, hd4, hO4, hh4⟩
    have een : endD ⟨(newD 4096).B, (newD 4096).up.set 0 (some (64 * p, List.replicate 64 f))⟩ 0 (-1) = (⟨putB (newD 4096).B (64 * p) (List.replicate 64 f) 64, ((newD 4096).up.set 0 (some (64 * p, List.replicate 64 f))).set 0 none⟩, 0) := by
      rw [end_val (by decide) (getD_set_eq _ (by decide)), List.length_replicate]; rfl
    have ok4 := ok3.end_ 0 (-1)
    rw [een] at hd4 ok4 ⊢
    rw [step_run r_neq, bool_dec]
    refine ⟨fun h => absurd rfl h, fun _ => ?_⟩
    have hk4 : Keeps ⟨putB (newD 4096).B (64 * p) (List.replicate 64 f) 64, ((newD 4096).up.set 0 (some (64 * p, List.replicate 64 f))).set 0 none⟩ p f := by
      refine ⟨ok4, ?_, fun i h1 h2 => ?_, fun k a b hk => ?_⟩
      · show (putB (newD 4096).B (64 * p) (List.replicate 64 f) 64).length = 4096
        rw [putB_len (by rw [List.length_replicate]; omega) (by rw [List.length_replicate]; exact Nat.le_refl _), hlen0]
      · show (putB (newD 4096).B (64 * p) (List.replicate 64 f) 64)[i]? = some f
        rw [putB_get (by rw [List.length_replicate]; omega) (by rw [List.length_replicate]; exact Nat.le_refl _), if_pos ⟨h1, h2⟩, List.getElem?_replicate, if_pos (by omega)]
      · dsimp only at hk
        rw [List.set_set] at hk
        by_cases he : 0 = k
        · subst he; rw [List.getElem?_set] at hk; simp at hk
        · rw [List.getElem?_set_ne he] at hk
          cases hup0 k _ hk
    refine st_loop (IS W l (.pointer (some ⟨g, 0, none⟩)) p f) (fun us _ => MS us) ⟨0, _, h4, Nat.zero_le _, by omega, rfl, hU4, hk4, hd4, hO4.sub (by simp), nil_fresh hh4⟩ ?_
    rintro dv us w5 - ⟨i, d, hh5, hi, hi60, ei, hU5, hk5, hd5, hO5, hf5⟩
    have em : MS us = 60 - ((i : Int)).toNat := by unfold MS; rw [ei]
    rw [ei, px_len22, step_run r_lss, bool_dec]
    refine ⟨fun hlt => ?_, fun _ => ?_⟩
    · rw [step_run r_lss, bool_dec]
      refine ⟨fun h60 => ?_, fun _ => ?_⟩
      · have hlt' : i < l.length := by omega
        obtain ⟨b, c2, hb, fb⟩ := op_at hl hlt'
        injection hb with e1 _ e3
        subst e1 e3
        have fo := hok l[i] (List.getElem_mem _)
        rw [px_ix22 hlt', ld_op (o := l[i]) (fun j u hj => fb w5 hU5 j u hj)]
        refine st_alloc ze24 hU5 hO5 ?_
        intro g10 w6 hU6 hO6 hg10
        refine st_storeN (vs := opV l[i]) (by rw [sz24]; rfl) hU6 hO6 0 rfl (by simp [Value.cells, opV]) (opV_one _) (.inr hg10) ?_
        intro w7 hU7 hO7
        have hO7' : Owns w7 (hh5 ++ [(g10, .cells (opV l[i]).toArray 24 (0, 0))]) := by
          have : Owns w7 ((g10, .cells (opV l[i]).toArray 24 (0, 0)) :: (hh5 ++ [])) := hO7
          refine this.perm ?_
          rw [List.append_nil]
          exact (List.perm_append_singleton _ _).symm
        rw [join_std]
        generalize hoo : l[i] = o at *
        have go : ∀ (w' : World) (dv' : Nat → Value) (mb : Bool), Upd W w' [] → Owns w' (hh5 ++ [(g10, .cells (opV o).toArray 24 (0, 0))]) →
            (o.kind = 0 → 0 ≤ longO o → 0 ≤ o.at_ → mb = false → o.at_ + longO o ≤ ((64 * p : Nat) : Int) ∨ ((64 * p + 64 : Nat) : Int) ≤ o.at_) →
            flotillalaw08_StableStays_j4 (std Try.prog) (.int .u8 f.toNat) (.pointer (some ⟨g, 0, none⟩)) [.int .i64 (p : Nat)] us (fun us' w' => IS W l (.pointer (some ⟨g, 0, none⟩)) p f us' w' ∧ MS us' < MS us) (.pointer (some ⟨g10, 0, none⟩)) dv' [.bool mb] w' fun r w' => r = .bool true ∧ Upd W w' [] := by
          intro w' dv' mb hU' hO' hmb
          rw [em]
          exact stays_j4 hp fo hk5 hd5 hO' hU' hf5 hlt' (by omega) ei hmb
        have hlo := longO_le o
        let F : List (Nat × Obj) := [(g10, .cells (opV o).toArray 24 (0, 0))]
        have hF : (g10, Obj.cells (opV o).toArray 24 (0, 0)) ∈ F := .head _
        have hO8 : Owns w7.drew (hh5 ++ F) := hO7'.ext (Upd.drew w7 [])
        have hS : SU W F w7.drew := ⟨hU7.trans (Upd.drew w7 []), hO8.sub (List.sublist_append_right _ _)⟩
        have hne : ∃ w', SU W F w' := ⟨_, hS⟩
        have f0 : ∀ w', SU W F w' → w'.cell? ⟨g10, 0, none⟩ = some (.int .i64 o.kind) := fun w' hs => box_at hF hs.2 0 _ rfl
        have f2 : ∀ w', SU W F w' → w'.cell? ⟨g10, 2, none⟩ = some (.int .i64 o.at_) := fun w' hs => box2 hF hs.2
        have fa : ∀ w', SU W F w' → ∀ j u, (opV o)[j]? = some u → w'.cell? ((⟨g10, 0, none⟩ : Addr).add j) = some u := fun w' hs => box_at hF hs.2
        have e128 : IntKind.wrap .i64 (((64 * p : Nat) : Int) + 64) = ((64 * p + 64 : Nat) : Int) := by rw [w64 (by omega) (by omega)]; omega
        refine st_draw (SU W F) hS ?_
        simp (disch := first | assumption | omega) only [SX, SLX, BX, add_mk, Nat.zero_add, List.getD_cons_zero, e64, e128, sld_op hne fa]
        refine ⟨fun c1 => ⟨fun c2 dv' => go _ dv' true hS.1 hO8 (fun h => by omega), fun c2 => ?_⟩, fun c1 => ⟨fun c2 => ⟨fun c3 dv' => go _ dv' _ hS.1 hO8 (fun h _ _ hm => ?_), fun c3 dv' => go _ dv' false hS.1 hO8 (fun _ _ _ _ => .inr (by omega))⟩, fun c2 => absurd (by omega) c2⟩⟩
        · refine st_call (long_spec hO8 hS.1 o) ?_
          rintro _ w9 ⟨rfl, hU9, hO9⟩
          have hS9 : SU W F w9 := ⟨hU9, hO9.sub (List.sublist_append_right _ _)⟩
          refine st_same hS9 ?_
          simp (disch := first | assumption | omega) only [SX, SLX, BX, add_mk, Nat.zero_add, List.getD_cons_zero, e64, e128]
          refine ⟨fun c3 dv' => go _ dv' true hU9 hO9 (fun _ _ _ h => by cases h), fun c3 => ?_⟩
          have e5 : 0 ≤ o.at_ → IntKind.wrap .i64 (((64 * p : Nat) : Int) - o.at_) = ((64 * p : Nat) : Int) - o.at_ := fun h0 => w64 (by omega) (by omega)
          have keep : o.kind = 0 → 0 ≤ longO o → 0 ≤ o.at_ → o.at_ + longO o ≤ ((64 * p : Nat) : Int) ∨ ((64 * p + 64 : Nat) : Int) ≤ o.at_ := fun _ _ h0 => by
            rw [e5 h0] at c3
            exact .inl (by omega)
          refine ⟨fun c4 => ⟨fun c5 dv' => go _ dv' _ hU9 hO9 (fun h1 h2 h3 _ => keep h1 h2 h3), fun c5 dv' => go _ dv' false hU9 hO9 (fun h1 h2 h3 _ => keep h1 h2 h3)⟩, fun c4 dv' => go _ dv' false hU9 hO9 (fun h1 h2 h3 _ => keep h1 h2 h3)⟩
        · rw [decide_eq_false_iff_not] at hm
          omega
      · exact lives_end hU5
    · exact lives_end hU5
  rw [step_run r_ext20, step_run r_ext21, px_peql27, bool_false, join_std, step_run r_lss, bool_dec]
  refine ⟨fun _ dv => main 0 dv (by decide), fun h0 => ?_⟩
  rw [step_run r_gtr, bool_dec]
  refine ⟨fun _ dv => main 0 dv (by decide), fun h63 dv => ?_⟩
  obtain ⟨p, rfl⟩ : ∃ p : Nat, at_ = p := ⟨at_.toNat, by omega⟩
  exact main p dv (by omega)

section
open Go.ChangeShapes Go.WideShapes Go.Deep
variable {H : Type} {enc : TypeId × Value → H} {held : Bool}
theorem byte_of_trod {r : Reach} {b0 : Nat} {v : Value} {d : DataW H} {p : List MemPlace} (hv : Value.okWide Try.prog w r b0 5 v) (h : DataW.Trod enc Try.prog w 0 (fun _ => true) held 5 v d p) : ∃ f : UInt8, v = v ∧ v = .int .u8 f.toNat := by
  obtain ⟨n, rfl, _, _, wf⟩ := open_int Try.underlying5 hv h
  have hb : 0 ≤ n ∧ n < 256 := by
    simp [Lit.wf, IntKind.min, IntKind.max, IntKind.bits, IntKind.signed] at wf
    omega
  refine ⟨UInt8.ofNat n.toNat, rfl, ?_⟩
  have e : ((UInt8.ofNat n.toNat).toNat : Int) = n := by simp; omega
  rw [e]
end
theorem StableStays_fits {v lv : Value} {l : List Op} {at_ : Int} {f : UInt8} (hv : v = .int .u8 f.toNat) (hl : RdS W opV 5 lv l) (hok : ∀ o ∈ l, Ok64 o) :
    CallsR Try.prog 4 #[.int .i64 at_, v, lv] W fun r w' => r = .bool true ∧ Upd W w' [] := by
  subst hv
  exact StableStays_spec hl hok
end Go.Proofs.Ytdkahgknoohbpaa
