/- StableWhole. -/
import Derived.Test.YtdkahgknoohbpaaS5
namespace Go.Proofs.Ytdkahgknoohbpaa
open Go Xf Go.RowKit Go.ChangeShapes Go.WideShapes Go.Deep
set_option linter.unusedVariables false
set_option linter.unusedSimpArgs false
set_option maxRecDepth 100000

variable {w W : World} {ks : List Nat} {F : List (Nat × Obj)}

def tornV (size : Int) (lv : Value) (o : Op) (sectors : Int) : List Value := .int .i64 size :: lv :: (opV o ++ [.int .i64 sectors])
theorem add_zero' (a : Addr) : a.add 0 = a := rfl
theorem op_at {lv : Value} {l : List Op} (hl : RdS W opV 5 lv l) {i : Nat} (hi : i < l.length) : ∃ a c, lv = .slice (some a) l.length c ∧ ∀ w', Upd W w' [] → ∀ j u, (opV l[i])[j]? = some u → w'.cell? ((a.add (i * 5)).add j) = some u := by
  obtain ⟨A, c, rfl, hm, hr⟩ := hl
  obtain ⟨a, rfl, hx⟩ := Rd.row (f := opV) (k := 5) opV_len (by omega) hr hi
  refine ⟨a, c, rfl, fun w' hU j u hu => ?_⟩
  rw [add_add']
  have := hx w' hU j u hu
  rwa [show ((i : Nat) : Int).toNat = i by omega] at this
theorem RdS.sl {α : Type} {f : α → List Value} {k : Nat} {v : Value} {l : List α} (h : RdS w f k v l) : ∃ A c, v = .slice A l.length c := by
  obtain ⟨A, c, h, _⟩ := h; exact ⟨A, c, h⟩

theorem lives_end (hU : Upd W w []) : (std Try.prog).calls 10 #[] w fun v w => v = .bool true ∧ Upd W w [] := st_call (lives_spec hU) fun _ _ h => h

theorem start_ok {d : Dv} {hand at_ : Int} {b : List UInt8} (h : (startD d hand at_ b).2 = 0) : hands hand ∧ 0 ≤ at_ ∧ at_.toNat % 64 = 0 ∧ b.length % 64 = 0 ∧ 0 < b.length ∧ at_.toNat + b.length ≤ d.B.length ∧ d.up.getD hand.toNat none = none ∧
    (startD d hand at_ b).1 = ⟨d.B, d.up.set hand.toNat (some (at_.toNat, b))⟩ := by
  unfold startD at h ⊢
  split at h
  · cases h
  · rename_i h1
    split at h
    · cases h
    · rename_i h2
      split at h
      · rename_i h3
        simp only [argD, not_or, not_and, ne_eq, Decidable.not_not] at h1
        obtain ⟨g1, g2, g3, g4⟩ := h1
        obtain ⟨k, rfl⟩ : ∃ k : Nat, at_ = k := ⟨at_.toNat, by omega⟩
        have h4' : k % 64 = 0 := by have : Int.tmod (k : Int) (64 : Nat) = ((k % 64 : Nat) : Int) := tmod_nat k 64; rw [show ((64 : Nat) : Int) = 64 from rfl, g2] at this; omega
        refine ⟨g1, by omega, by rw [Int.toNat_natCast]; exact h4', g3, by omega, by omega, h3, ?_⟩
        have hna : ¬ argD hand (k : Int) b := by
          unfold argD
          rintro (hx | hx | hx | hx)
          · exact hx g1
          · exact hx g2
          · omega
          · omega
        rw [if_neg hna, if_neg h2, if_pos h3]
      · exact absurd (show (10 : Int) = 0 from h) (by decide)
theorem end_set {d : Dv} {hand : Int} {a : Nat} {b : List UInt8} (h : hands hand) (h8 : d.up.length = 8) (most : Int) : endD ⟨d.B, d.up.set hand.toNat (some (a, b))⟩ hand most = (⟨putB d.B a b (cutL b.length most), (d.up.set hand.toNat (some (a, b))).set hand.toNat none⟩, 0) := by
  unfold endD
  rw [if_pos h]
  have : (d.up.set hand.toNat (some (a, b))).getD hand.toNat none = some (a, b) := by
    rw [List.getD_eq_getElem?_getD, List.getElem?_set_self (by unfold hands at h; omega)]; rfl
  dsimp only
  rw [this]
theorem putB_get {B : List UInt8} {a : Nat} {b : List UInt8} {k : Nat} (h : a + b.length ≤ B.length) (hk : k ≤ b.length) (i : Nat) : (putB B a b k)[i]? = if a ≤ i ∧ i < a + k then b[i - a]? else B[i]? := by
  have l1 : (B.take a).length = a := by rw [List.length_take]; omega
  have l2 : (b.take k).length = k := by rw [List.length_take]; omega
  unfold putB
  split
  · rename_i hc
    rw [List.append_assoc, List.getElem?_append_right (by omega), l1, List.getElem?_append_left (by omega), List.getElem?_take, if_pos (by omega)]
  · rename_i hc
    by_cases hi : i < a
    · rw [List.append_assoc, List.getElem?_append_left (by omega), List.getElem?_take, if_pos hi]
    · rw [List.getElem?_append_right (by rw [List.length_append]; omega), List.length_append, l1, l2, List.getElem?_drop]
      congr 1; omega

theorem whole_rest {size : Nat} {sectors : Int} {o : Op} {v0 v5 : Value} {d : Dv} (ho : Ok64 o) (hsec : in64 sectors) (ok : DvOk d) (hlen : d.B.length = size) {g5 : Nat} (h5 : v5 = .pointer (some ⟨g5, 0, none⟩)) {h : List (Nat × Obj)} (hU : Upd W w []) (hd : DevH d v0 h) (hO : Owns w (h ++ F)) (hh : ∀ p ∈ h, W.heap.size ≤ p.1)
    (hF : (g5, .cells (opV o).toArray 24 (0, 0)) ∈ F) (hl0 : 0 ≤ longO o) :
    flotillalaw08_StableWhole_k2 (std Try.prog) (.int .i64 (size : Nat)) (.int .i64 sectors) v5 v0 w fun r w' => r = .bool true ∧ Upd W w' [] := by
  subst h5
  have hmost := ok.most
  have h64 := ok.m64
  unfold flotillalaw08_StableWhole_k2
  refine st_call (Read_spec hd ok.most (fun p hp => List.mem_append_left _ hp) hO hU 0 size) ?_
  rintro _ w1 ⟨hU1, ⟨hn, _⟩ | ⟨_, vw, hw, rfl, hrw, hO1, hhw⟩⟩
  · unfold readOut at hn; omega
  rw [Int.toNat_zero, List.drop_zero, Int.toNat_natCast, List.take_of_length_le (by omega)] at hrw
  have hO1' : Owns w1 (h ++ (hw ++ F)) := hO1.perm (List.perm_append_comm_assoc _ _ _)
  have hgF : ∀ {w' : World} {l : List (Nat × Obj)}, Owns w' l → (∀ p ∈ F, p ∈ l) → ∀ j u, (opV o)[j]? = some u → w'.cell? ((⟨g5, 0, none⟩ : Addr).add j) = some u := fun ho hs j u hj => by
    rw [add_mk, cell_at (ho.2 _ (hs _ hF)), Nat.zero_add]; simpa using hj
  have hS1 : SU W (hw ++ F) w1.drew := ⟨hU1.trans (Upd.drew w1 []), (hO1'.ext (Upd.drew w1 [])).sub (List.sublist_append_right _ _)⟩
  have hne : ∃ w', SU W (hw ++ F) w' := ⟨_, hS1⟩
  have qf : ∀ w', SU W (hw ++ F) w' → ∀ j u, (opV o)[j]? = some u → w'.cell? ((⟨g5, 0, none⟩ : Addr).add j) = some u := fun w' hs => hgF hs.2 fun p hp => List.mem_append_right _ hp
  have q1 : ∀ w', SU W (hw ++ F) w' → w'.cell? ⟨g5, 1, none⟩ = some (.int .i64 o.hand) := fun w' hs => by have := qf w' hs 1 _ rfl; rwa [add_mk] at this
  have q2 : ∀ w', SU W (hw ++ F) w' → w'.cell? ⟨g5, 2, none⟩ = some (.int .i64 o.at_) := fun w' hs => by have := qf w' hs 2 _ rfl; rwa [add_mk] at this
  have q4 : ∀ w', SU W (hw ++ F) w' → w'.cell? ⟨g5, 4, none⟩ = some (.int .u8 o.fill.toNat) := fun w' hs => by have := qf w' hs 4 _ rfl; rwa [add_mk] at this
  simp (disch := first | assumption | omega) only [PX, BX]
  refine st_draw (SU W (hw ++ F)) hS1 ?_
  simp (disch := first | assumption | omega) only [SX, SLX, add_mk, Nat.zero_add, sld_op hne qf]
  refine st_begin (K := fun S3 v3 w => _) (fun _ h => h) ok hd (hO1'.ext (Upd.drew w1 [])) hS1.1 hh ho hl0 ?_
  intro w3 h3 hd3 hO3 hU3 hh3
  simp (disch := first | assumption | omega) only [SX, BX]
  refine ⟨fun _ => lives_end hU3, fun hz => ?_⟩
  have hz : (beginD d o).2 = 0 := Decidable.not_not.1 hz
  obtain ⟨s1, s2, s3, s4, s5, s6, s7, s8⟩ := start_ok hz
  have ok3 : DvOk (beginD d o).1 := ok.start _ _ _
  have c51 : w3.cell? ⟨g5, 1, none⟩ = some (.int .i64 o.hand) := q1 w3 ⟨hU3, hO3.sub (List.sublist_append_right _ _)⟩
  simp (disch := first | assumption | omega) only [PX, BX, LX, add_mk, Nat.zero_add]
  refine st_call (Crash_spec ok3 hd3 hO3 hU3 (fresh_nil hh3) _ _) ?_
  rintro _ w4 ⟨rfl, hU4, h4, hd4, hO4, hh4⟩
  obtain ⟨m, hm, hmd⟩ : ∃ m : Int, (if sectors < 0 then 0 else sectors) = m ∧ 0 ≤ m := ⟨_, rfl, by split <;> omega⟩
  have hcr : crashD (beginD d o).1 o.hand sectors = (⟨putB d.B o.at_.toNat (List.replicate (longO o).toNat o.fill) (cutL (longO o).toNat m), (d.up.set o.hand.toNat (some (o.at_.toNat, List.replicate (longO o).toNat o.fill))).set o.hand.toNat none⟩, 0) := by
    unfold crashD beginD
    rw [s8, end_set s1 ok.eight, hm, List.length_replicate]
  have ok4 : DvOk (crashD (beginD d o).1 o.hand sectors).1 := ok3.end_ _ _
  rw [hcr] at hd4 ok4 ⊢
  simp (disch := first | assumption | omega) only [PX, BX]
  refine ⟨fun h => absurd rfl h, fun _ => ?_⟩
  rw [List.length_replicate] at s4 s5 s6
  have hbl := putB_len (B := d.B) (a := o.at_.toNat) (b := List.replicate (longO o).toNat o.fill) (k := cutL (longO o).toNat m) (by rw [List.length_replicate]; exact s6) (by rw [List.length_replicate]; exact cutL_le _ _)
  generalize hBn : putB d.B o.at_.toNat (List.replicate (longO o).toNat o.fill) (cutL (longO o).toNat m) = Bn at *
  refine st_call (Read_spec hd4 ok4.most (fun p hp => List.mem_append_left _ hp) hO4 hU4 0 size) ?_
  rintro _ w5 ⟨hU5, ⟨hn, _⟩ | ⟨_, vn, hn, rfl, hrn, hO5, hhn⟩⟩
  · unfold readOut at hn; dsimp only at hn; omega
  rw [Int.toNat_zero, List.drop_zero, Int.toNat_natCast, List.take_of_length_le (by dsimp only; omega)] at hrn
  dsimp only at hrn
  obtain ⟨An, cn, rfl, _⟩ := hrn.sl
  obtain ⟨Aw, cw, rfl, _⟩ := hrw.sl
  simp (disch := first | assumption | omega) only [PX, BX]
  refine ⟨fun h => absurd rfl h, fun _ => ⟨fun h => absurd rfl h, fun _ => ⟨fun h => absurd rfl h, fun _ => ?_⟩⟩⟩
  -- what the device has now
  have law : ∀ (q i : Nat), 64 * q ≤ i → i < 64 * q + 64 → 
      ((((64 * q : Nat) : Int) ≥ o.at_ ∧ ((64 * q : Nat) : Int) < o.at_ + longO o ∧ (((64 * q : Nat) : Int) - o.at_).tdiv 64 < sectors) → Bn[i]? = some o.fill) ∧
      (¬ (((64 * q : Nat) : Int) ≥ o.at_ ∧ ((64 * q : Nat) : Int) < o.at_ + longO o ∧ (((64 * q : Nat) : Int) - o.at_).tdiv 64 < sectors) → Bn[i]? = d.B[i]?) := by
    intro q i h1 h2
    obtain ⟨p, hp⟩ : ∃ p : Nat, o.at_ = (64 * p : Nat) := ⟨o.at_.toNat / 64, by omega⟩
    obtain ⟨n, hn⟩ : ∃ n : Nat, longO o = (64 * n : Nat) := ⟨(longO o).toNat / 64, by omega⟩
    rw [← hBn, putB_get (by rw [List.length_replicate]; exact s6) (by rw [List.length_replicate]; exact cutL_le _ _), List.getElem?_replicate]
    rw [hp, hn, Int.toNat_natCast, Int.toNat_natCast]
    have hcut : cutL (64 * n) m = 64 * min n m.toNat := by unfold cutL; rw [if_neg (by omega)]; omega
    have hdiv : p ≤ q → ((((64 * q : Nat) : Int) - ((64 * p : Nat) : Int)).tdiv 64) = ((q - p : Nat) : Int) := fun h => by
      rw [show (((64 * q : Nat) : Int) - ((64 * p : Nat) : Int)) = ((64 * (q - p) : Nat) : Int) by omega, show (64 : Int) = ((64 : Nat) : Int) from rfl, tdiv_nat]
      congr 1; omega
    have hm' : m.toNat = sectors.toNat := by rw [← hm]; split <;> omega
    rw [hcut, hm']
    constructor
    · rintro ⟨c1, c2, c3⟩
      rw [hdiv (by omega)] at c3
      rw [if_pos (by omega), if_pos (by omega)]
    · intro hc
      rw [if_neg]
      rintro ⟨c1, c2⟩
      exact hc ⟨by omega, by omega, by rw [hdiv (by omega)]; omega⟩
  generalize hG : hn ++ (h4 ++ (hw ++ F)) = G at *
  have hGF : ∀ p ∈ F, p ∈ G := fun p hp => by rw [← hG]; exact List.mem_append_right _ (List.mem_append_right _ (List.mem_append_right _ hp))
  have hGn : ∀ p ∈ hn, p ∈ G := fun p hp => by rw [← hG]; exact List.mem_append_left _ hp
  have hGw : ∀ p ∈ hw, p ∈ G := fun p hp => by rw [← hG]; exact List.mem_append_right _ (List.mem_append_right _ (List.mem_append_left _ hp))
  have hneG : ∃ w', SU W G w' := ⟨_, hU5, hO5⟩
  have qG : ∀ w', SU W G w' → ∀ j u, (opV o)[j]? = some u → w'.cell? ((⟨g5, 0, none⟩ : Addr).add j) = some u := fun w' hs => hgF hs.2 hGF
  have q2 : ∀ w', SU W G w' → w'.cell? ⟨g5, 2, none⟩ = some (.int .i64 o.at_) := fun w' hs => by have := qG w' hs 2 _ rfl; rwa [add_mk] at this
  have q4 : ∀ w', SU W G w' → w'.cell? ⟨g5, 4, none⟩ = some (.int .u8 o.fill.toNat) := fun w' hs => by have := qG w' hs 4 _ rfl; rwa [add_mk] at this
  have hlo := longO_le o
  refine st_loop (fun us w' => ∃ q : Nat, us.getD 0 undef = .int .i64 (64 * q : Nat) ∧ SU W G w' ∧ 64 * q ≤ size) (fun us _ => size + 64 - (match us.getD 0 undef with | .int _ m => m.toNat | _ => 0)) ⟨0, rfl, ⟨hU5, hO5⟩, by omega⟩ ?_
  rintro dv us w6 - ⟨q, eq, hS6, hq⟩
  simp (disch := first | assumption | omega) only [eq, PX, BX]
  refine ⟨fun hlt => ?_, fun _ => lives_end hS6.1⟩
  have hlt' : 64 * q < size := by omega
  rw [join_std]
  have inner : ∀ (w' : World) (dv' : Nat → Value) (b : Bool), SU W G w' → (b = true ↔ (((64 * q : Nat) : Int) ≥ o.at_ ∧ ((64 * q : Nat) : Int) < o.at_ + longO o ∧ (((64 * q : Nat) : Int) - o.at_).tdiv 64 < sectors)) →
      flotillalaw08_StableWhole_j9 (std Try.prog) (.pointer (some ⟨g5, 0, none⟩)) (.slice Aw size cw) (.slice An size cn) us (fun vs' w' => (∃ q : Nat, vs'.getD 0 undef = .int .i64 (64 * q : Nat) ∧ SU W G w' ∧ 64 * q ≤ size) ∧
        size + 64 - (match vs'.getD 0 undef with | .int _ m => m.toNat | _ => 0) < size + 64 - ((64 * q : Nat) : Int).toNat) dv' [.bool b] w' fun r w' => r = .bool true ∧ Upd W w' [] := by
    intro w' dv' b hS' hb
    unfold flotillalaw08_StableWhole_j9
    refine st_loop (fun us' w' => ∃ i : Nat, us'.getD 0 undef = .int .i64 (i : Nat) ∧ 64 * q ≤ i ∧ i ≤ 64 * q + 64 ∧ SU W G w') (fun us' _ => 64 * q + 64 - (match us'.getD 0 undef with | .int _ m => m.toNat | _ => 0)) ⟨64 * q, eq, Nat.le_refl _, by omega, hS'⟩ ?_
    rintro dv2 us' w7 - ⟨i, ei, hi1, hi2, hS7⟩
    have e64 : IntKind.wrap .i64 (((64 * q : Nat) : Int) + 64) = ((64 * q + 64 : Nat) : Int) := by rw [w64 (by omega) (by omega)]; omega
    simp (disch := first | assumption | omega) only [eq, ei, PX, BX, e64, List.getD_cons_zero]
    refine ⟨fun hil => ?_, fun hig => ?_⟩
    · have hil' : i < 64 * q + 64 := by omega
      have his : i < size := by omega
      have nxt : ∀ w', SU W G w' → flotillalaw08_StableWhole_k6 (std Try.prog) us' (fun vs' w' => (∃ i : Nat, vs'.getD 0 undef = .int .i64 (i : Nat) ∧ 64 * q ≤ i ∧ i ≤ 64 * q + 64 ∧ SU W G w') ∧ 64 * q + 64 - (match vs'.getD 0 undef with | .int _ m => m.toNat | _ => 0) < 64 * q + 64 - ((i : Nat) : Int).toNat) w' fun r w' => r = .bool true ∧ Upd W w' [] := by
        intro w' hS'
        unfold flotillalaw08_StableWhole_k6
        simp (disch := first | assumption | omega) only [ei, PX, BX]
        rw [w64 (by omega) (by omega)]
        refine ⟨⟨i + 1, by simp, by omega, by omega, hS'⟩, ?_⟩
        show 64 * q + 64 - ((i : Int) + 1).toNat < 64 * q + 64 - ((i : Int)).toNat
        rw [show ((i : Int) + 1).toNat = i + 1 by omega, Int.toNat_natCast]
        omega
      obtain ⟨x, hx⟩ : ∃ x, Bn[i]? = some x := ⟨_, List.getElem?_eq_getElem (by omega)⟩
      obtain ⟨y, hy⟩ : ∃ y, d.B[i]? = some y := ⟨_, List.getElem?_eq_getElem (by omega)⟩
      obtain ⟨an, cn', hvn, hin, hcn⟩ := row_byte hrn hGn hS7.2 hx
      obtain ⟨aw, cw', hvw, hiw, hcw⟩ := row_byte hrw hGw hS7.2 hy
      injection hvn with e1 _ e2
      injection hvw with e3 _ e4
      subst e1 e2 e3 e4
      have pn : ∀ w', SU W G w' → w'.cell? (an.add i) = some (.int .u8 x.toNat) := fun w' h => hcn w' h.2
      have pw : ∀ w', SU W G w' → w'.cell? (aw.add i) = some (.int .u8 y.toNat) := fun w' h => hcw w' h.2
      have hS8 : SU W G w7.drew := SU.drew hS7.1 hS7.2
      refine st_draw (SU W G) hS8 ?_
      cases b with
      | true =>
        have hxf : x = o.fill := by have := (law q i hi1 hil').1 (hb.1 rfl); rw [hx] at this; injection this
        simp (disch := first | assumption | omega) only [ei, SX, SLX, BX, PX, Bool.not_true, flotillalaw08_StableWhole_k8, add_mk, Nat.zero_add]
        exact ⟨fun h => absurd (by rw [hxf]) h, fun _ => nxt _ hS8⟩
      | false =>
        have hxy : x = y := by have := (law q i hi1 hil').2 (fun h => by cases hb.2 h); rw [hx, hy] at this; injection this
        simp (disch := first | assumption | omega) only [ei, SX, SLX, BX, PX, Bool.not_false, flotillalaw08_StableWhole_k7, add_mk, Nat.zero_add]
        exact ⟨fun h => absurd (by rw [hxy]) h, fun _ => nxt _ hS8⟩
    · obtain rfl : i = 64 * q + 64 := by omega
      unfold flotillalaw08_StableWhole_k5
      simp (disch := first | assumption | omega) only [eq, PX, BX, e64]
      refine ⟨⟨q + 1, by simp only [List.getD_cons_zero]; rfl, hS7, by omega⟩, ?_⟩
      show size + 64 - ((64 * q + 64 : Nat) : Int).toNat < size + 64 - ((64 * q : Nat) : Int).toNat
      rw [Int.toNat_natCast, Int.toNat_natCast]
      omega
  have hS8 : SU W G w6.drew := SU.drew hS6.1 hS6.2
  refine st_draw (SU W G) hS8 ?_
  simp (disch := first | assumption | omega) only [eq, SX, SLX, BX, PX, add_mk, Nat.zero_add, sld_op hneG qG]
  refine ⟨fun c1 => ?_, fun c1 dv' => inner _ dv' false hS8 ⟨fun h => (by cases h), fun h => absurd h.1 (by omega)⟩⟩
  refine st_call (long_spec hS8.2 hS8.1 o) ?_
  rintro _ w8 ⟨rfl, hU8, hO8⟩
  refine st_same (show SU W G w8 from ⟨hU8, hO8⟩) ?_
  obtain ⟨p, hp⟩ : ∃ p : Nat, o.at_ = (p : Nat) := ⟨o.at_.toNat, by omega⟩
  have e2 : IntKind.wrap .i64 (o.at_ + longO o) = o.at_ + longO o := w64 (by omega) (by omega)
  have e3 : IntKind.wrap .i64 (((64 * q : Nat) : Int) - o.at_) = ((64 * q : Nat) : Int) - o.at_ := w64 (by omega) (by omega)
  simp (disch := first | assumption | omega) only [eq, SX, SLX, BX, PX, add_mk, Nat.zero_add, e2, e3]
  refine ⟨fun c2 => ?_, fun c2 dv' => inner _ dv' false ⟨hU8, hO8⟩ ⟨fun h => (by cases h), fun h => absurd h.2.1 (by omega)⟩⟩
  have e4 : IntKind.wrap .i64 ((((64 * q : Nat) : Int) - o.at_).tdiv 64) = (((64 * q : Nat) : Int) - o.at_).tdiv 64 := by
    rw [show (((64 * q : Nat) : Int) - o.at_) = ((64 * q - p : Nat) : Int) by omega, show (64 : Int) = ((64 : Nat) : Int) from rfl, tdiv_nat]
    exact w64 (by omega) (by omega)
  rw [e4]
  exact fun dv' => inner _ dv' _ ⟨hU8, hO8⟩ (by rw [decide_eq_true_iff]; exact ⟨fun h => ⟨by omega, by omega, h⟩, fun h => h.2.2⟩)

theorem StableWhole_spec {lv : Value} {l : List Op} {size sectors : Int} {o : Op} (hl : RdS W opV 5 lv l) (hok : ∀ o ∈ l, Ok64 o) (ho : Ok64 o) (hsec : in64 sectors) :
    CallsR Try.prog 3 #[.agg (tornV size lv o sectors).toArray] W fun r w' => r = .bool true ∧ Upd W w' [] := by
  apply flotillalaw08_StableWhole_sound
  unfold flotillalaw08_StableWhole_x
  refine st_box (Upd.refl W []) (Owns.nil W) ?_
  intro g1 w1 hU1 hO1 hg1
  let F1 : List (Nat × Obj) := [(g1, .cells (tornV size lv o sectors).toArray 26 (0, 0))]
  have hOd : Owns w1.drew F1 := hO1.ext (Upd.drew w1 [])
  have hUd : Upd W w1.drew [] := hU1.trans (Upd.drew w1 [])
  have hne : ∃ w', SU W F1 w' := ⟨_, hU1, hO1⟩
  have q0 : ∀ w', SU W F1 w' → w'.cell? ⟨g1, 0, none⟩ = some (.int .i64 size) := fun w' h => cell_at (h.2.at_ 0 rfl)
  have q1 : ∀ w', SU W F1 w' → w'.cell? ⟨g1, 1, none⟩ = some lv := fun w' h => cell_at (h.2.at_ 0 rfl)
  have q7 : ∀ w', SU W F1 w' → w'.cell? ⟨g1, 7, none⟩ = some (.int .i64 sectors) := fun w' h => cell_at (h.2.at_ 0 rfl)
  have q2 : ∀ w', SU W F1 w' → ∀ j u, (opV o)[j]? = some u → w'.cell? ((⟨g1, 2, none⟩ : Addr).add j) = some u := fun w' h j u hj => by
    rw [add_mk, cell_at (h.2.at_ 0 rfl)]
    have hlt := (List.getElem?_eq_some_iff.1 hj).1
    rw [opV_len] at hlt
    rw [List.getElem?_toArray, Nat.add_comm 2 j]
    show (opV o ++ [.int .i64 sectors])[j]? = some u
    rw [List.getElem?_append_left (by rw [opV_len]; exact hlt)]
    exact hj
  refine st_draw (SU W F1) ⟨hUd, hOd⟩ ?_
  simp (disch := first | assumption | omega) only [SX, SLX, add_mk, Nat.zero_add, sld_op hne q2]
  refine st_alloc ze24 hUd hOd ?_
  intro g5 w2 hU2 hO2 hg5
  refine st_keepS (SU W F1) (fun _ h => h) ⟨hU2, hO2.sub (by simp)⟩ ?_
  refine st_storeN (vs := opV o) (by rw [sz24]; rfl) hU2 hO2 0 rfl (by simp [Value.cells, opV]) (opV_one o) (.inr hg5) ?_
  intro w3 hU3 hO3
  let F : List (Nat × Obj) := (g5, .cells (opV o).toArray 24 (0, 0)) :: F1
  have hO3' : Owns w3 F := hO3
  refine st_keepS (SU W F1) (fun _ h => h) ⟨hU3, hO3'.sub (by simp [F])⟩ ?_
  refine st_call (New_spec hU3 hO3' size) ?_
  rintro _ w4 ⟨hU4, ⟨hn, rfl, hO4⟩ | ⟨hsz, v0, h0, rfl, hd0, hO0, hh0⟩⟩
  · simp (disch := first | assumption | omega) only [PX, BX]
    exact ⟨fun _ => lives_end hU4, fun h => absurd (by decide) h⟩
  simp (disch := first | assumption | omega) only [PX, BX]
  refine ⟨fun h => absurd rfl h, fun _ => ⟨fun _ => lives_end hU4, fun h4096 => ?_⟩⟩
  rw [ld_op (o := o) (fun j u hj => by
    rw [add_mk, cell_at (hO0.2 _ (List.mem_append_right _ (.head _))), Nat.zero_add]; simpa using hj)]
  refine st_call (long_spec hO0 hU4 o) ?_
  rintro _ w5 ⟨rfl, hU0, hO0⟩
  simp (disch := first | assumption | omega) only [PX, BX]
  refine ⟨fun _ => lives_end hU0, fun hl0 => ?_⟩
  have hl0 : 0 ≤ longO o := by omega
  obtain ⟨n, rfl⟩ : ∃ n : Nat, size = n := ⟨size.toNat, by unfold sizeOk at hsz; omega⟩
  rw [Int.toNat_natCast] at hd0
  have ok0 : DvOk (newD n) := DvOk.new (by unfold sizeOk at hsz; omega) (by unfold sizeOk at hsz; omega)
  generalize hd0e : newD n = d0 at *
  have hlen0 : d0.B.length = n := by rw [← hd0e]; simp [newD]
  obtain ⟨A, c, rfl⟩ := hl.sl
  refine st_loop (fun us w' => ∃ (i : Nat) (h : List (Nat × Obj)), i ≤ l.length ∧ i ≤ 60 ∧ us.getD 0 undef = .int .i64 (i : Nat) ∧ Upd W w' [] ∧ DevH (playD d0 (l.take i)) v0 h ∧ Owns w' (h ++ F) ∧ ∀ p ∈ h, W.heap.size ≤ p.1)
    (fun us _ => 60 - (match us.getD 0 undef with | .int _ m => m.toNat | _ => 0)) ⟨0, h0, Nat.zero_le _, by omega, rfl, hU0, hd0, hO0, hh0⟩ ?_
  rintro dv us w1 - ⟨i, h, hi, hi60, ei, hU, hd, hO, hh⟩
  have ok := playD_ok ok0 (l.take i)
  simp (disch := first | assumption | omega) only [ei, PX, BX]
  refine ⟨fun hlt => ⟨fun hlt60 => ?_, fun hge => ?_⟩, fun hge => ?_⟩
  · have hlt' : i < l.length := by omega
    obtain ⟨b, c2, hb, fb⟩ := op_at hl hlt'
    injection hb with e1 _ e3
    subst e1 e3
    have f0 := fun w' hw => fb w' hw 0 _ rfl
    have f1 := fun w' hw => fb w' hw 1 _ rfl
    have f2 := fun w' hw => fb w' hw 2 _ rfl
    have f3 := fun w' hw => fb w' hw 3 _ rfl
    have f4 := fun w' hw => fb w' hw 4 _ rfl
    have fo := hok l[i] (List.getElem_mem _)
    rw [add_zero'] at f0
    have next : ∀ (w' : World) (h' : List (Nat × Obj)), DevH (play1 (playD d0 (l.take i)) l[i]) v0 h' → Owns w' (h' ++ F) → Upd W w' [] → (∀ p ∈ h', W.heap.size ≤ p.1) →
        flotillalaw08_StableWhole_k10 (std Try.prog) us (fun us' w' => (∃ (i : Nat) (h : List (Nat × Obj)), i ≤ l.length ∧ i ≤ 60 ∧ us'.getD 0 undef = .int .i64 (i : Nat) ∧ Upd W w' [] ∧ DevH (playD d0 (l.take i)) v0 h ∧ Owns w' (h ++ F) ∧ ∀ p ∈ h, W.heap.size ≤ p.1) ∧
          60 - (match us'.getD 0 undef with | .int _ m => m.toNat | _ => 0) < 60 - ((i : Int)).toNat) w' fun r w' => r = .bool true ∧ Upd W w' [] := by
      intro w' h' hd' hO' hU' hh'
      unfold flotillalaw08_StableWhole_k10
      simp (disch := first | assumption | omega) only [ei, PX, BX]
      rw [w64 (by omega) (by omega)]
      refine ⟨⟨i + 1, h', hlt', by omega, by simp, hU', by rw [playD_take _ _ hlt']; exact hd', hO', hh'⟩, ?_⟩
      show 60 - ((i : Int) + 1).toNat < 60 - ((i : Int)).toNat
      rw [show ((i : Int) + 1).toNat = i + 1 by omega, Int.toNat_natCast]
      omega
    rw [join_std]
    -- behind the first test
    have second : ∀ (w' : World) (h' : List (Nat × Obj)) (dv' : Nat → Value) (us' : List Value), DevH (if l[i].kind = 0 ∧ 0 ≤ longO l[i] then (beginD (playD d0 (l.take i)) l[i]).1 else playD d0 (l.take i)) v0 h' → Owns w' (h' ++ F) → Upd W w' [] → (∀ p ∈ h', W.heap.size ≤ p.1) →
        flotillalaw08_StableWhole_j11 (std Try.prog) (.slice (some b) l.length c) v0 us (fun us' w' => (∃ (i : Nat) (h : List (Nat × Obj)), i ≤ l.length ∧ i ≤ 60 ∧ us'.getD 0 undef = .int .i64 (i : Nat) ∧ Upd W w' [] ∧ DevH (playD d0 (l.take i)) v0 h ∧ Owns w' (h ++ F) ∧ ∀ p ∈ h, W.heap.size ≤ p.1) ∧
          60 - (match us'.getD 0 undef with | .int _ m => m.toNat | _ => 0) < 60 - ((i : Int)).toNat) dv' us' w' fun r w' => r = .bool true ∧ Upd W w' [] := by
      intro w' h' dv' us' hd' hO' hU' hh'
      unfold flotillalaw08_StableWhole_j11
      have g0 := f0 w' hU'
      have g1 := f1 w' hU'
      have ok1 : DvOk (if l[i].kind = 0 ∧ 0 ≤ longO l[i] then (beginD (playD d0 (l.take i)) l[i]).1 else playD d0 (l.take i)) := by
        split
        · exact ok.start _ _ _
        · exact ok
      simp (disch := first | assumption | omega) only [ei, PX, BX, LX]
      refine ⟨fun h1 => ?_, fun h1 => ?_⟩
      · refine st_call (Finish_spec ok1 hd' hO' hU' (fresh_nil hh') _) ?_
        rintro _ w2 ⟨rfl, hU2, h2, hd2, hO2, hh2⟩
        refine next w2 h2 ?_ hO2 hU2 (nil_fresh hh2)
        unfold play1; dsimp only; rw [if_pos h1]; exact hd2
      · refine next w' h' ?_ hO' hU' hh'
        unfold play1; dsimp only; rw [if_neg h1]; exact hd'
    have g0 := f0 w1 hU
    simp (disch := first | assumption | omega) only [ei, PX, BX, LX]
    refine ⟨fun hk0 => ?_, fun hk0 dv' => second w1 h dv' _ (by rw [if_neg (by rintro ⟨h1, _⟩; exact hk0 h1)]; exact hd) hO hU hh⟩
    rw [ld_op (o := l[i]) (fun j u hj => fb w1 hU j u hj)]
    refine st_call (long_spec hO hU l[i]) ?_
    rintro _ w2 ⟨rfl, hU2, hO2⟩
    simp (disch := first | assumption | omega) only [ei, PX, BX, LX]
    refine ⟨fun hl0 => ?_, fun hl0 dv' => second w2 h dv' _ (by rw [if_neg (by rintro ⟨_, h1⟩; exact hl0 h1)]; exact hd) hO2 hU2 hh⟩
    have hS2 : SU W F w2.drew := ⟨hU2.trans (Upd.drew w2 []), (hO2.ext (Upd.drew w2 [])).sub (List.sublist_append_right _ _)⟩
    have hne : ∃ w', SU W F w' := ⟨_, hS2⟩
    have q1 : ∀ w', SU W F w' → w'.cell? ((b.add (i * 5)).add 1) = some (.int .i64 l[i].hand) := fun w' h => f1 w' h.1
    have q2 : ∀ w', SU W F w' → w'.cell? ((b.add (i * 5)).add 2) = some (.int .i64 l[i].at_) := fun w' h => f2 w' h.1
    have q4 : ∀ w', SU W F w' → w'.cell? ((b.add (i * 5)).add 4) = some (.int .u8 l[i].fill.toNat) := fun w' h => f4 w' h.1
    have qa : ∀ w', SU W F w' → ∀ j u, (opV l[i])[j]? = some u → w'.cell? ((b.add (i * 5)).add j) = some u := fun w' h j u hj => fb w' h.1 j u hj
    refine st_draw (SU W F) hS2 ?_
    simp (disch := first | assumption | omega) only [ei, SX, SLX, sld_op hne qa]
    refine st_begin (K := fun S3 v3 w => ∀ dv', _) (fun _ h => h) ok hd (hO2.ext (Upd.drew w2 [])) hS2.1 hh fo hl0 ?_
    intro w3 h3 hd3 hO3 hU3 hh3 dv'
    exact second w3 h3 dv' _ (by rw [if_pos ⟨hk0, hl0⟩]; exact hd3) hO3 hU3 hh3
  · exact whole_rest ho hsec ok (by rw [playD_len ok0]; exact hlen0) rfl hU hd hO hh (.head _) hl0
  · exact whole_rest ho hsec ok (by rw [playD_len ok0]; exact hlen0) rfl hU hd hO hh (.head _) hl0

section
variable {H : Type} {enc : TypeId × Value → H} {held : Bool}
theorem opV_of (row : List Value) (h : RowOk [.int .i64, .int .i64, .int .i64, .int .i64, .int .u8] row) : ∃ o, row = opV o ∧ Ok64 o := by
  obtain ⟨hl, hk⟩ := h
  obtain ⟨_, e0, n0, rfl, w0⟩ := hk 0 _ rfl
  obtain ⟨_, e1, n1, rfl, w1⟩ := hk 1 _ rfl
  obtain ⟨_, e2, n2, rfl, w2⟩ := hk 2 _ rfl
  obtain ⟨_, e3, n3, rfl, w3⟩ := hk 3 _ rfl
  obtain ⟨_, e4, n4, rfl, w4⟩ := hk 4 _ rfl
  have hb : 0 ≤ n4 ∧ n4 < 256 := by
    simp [Lit.wf, IntKind.min, IntKind.max, IntKind.bits, IntKind.signed] at w4
    omega
  refine ⟨⟨n0, n1, n2, n3, UInt8.ofNat n4.toNat⟩, ?_, in64_wf w0, in64_wf w1, in64_wf w2, in64_wf w3⟩
  have e : ((UInt8.ofNat n4.toNat).toNat : Int) = n4 := by simp; omega
  match row, hl with
  | [a, b, c, d, f], _ => simp at e0 e1 e2 e3 e4; subst e0 e1 e2 e3 e4; simp only [opV, e]
theorem torn_of_trod {r : Reach} {b0 : Nat} {v : Value} {d : DataW H} {p : List MemPlace} (hv : Value.okWide Try.prog w r b0 26 v) (h : DataW.Trod enc Try.prog w 0 (fun _ => true) held 26 v d p) :
    ∃ x : Int × Value × List Op × Op × Int, v = v ∧ v = .agg (tornV x.1 x.2.1 x.2.2.2.1 x.2.2.2.2).toArray ∧ RdS w opV 5 x.2.1 x.2.2.1 ∧ (∀ o ∈ x.2.2.1, Ok64 o) ∧ Ok64 x.2.2.2.1 ∧ in64 x.2.2.2.2 := by
  obtain ⟨cs, rfl, hsz⟩ := okWide_struct Try.underlying26 hv
  obtain ⟨l⟩ := cs
  obtain ⟨fuel, hf⟩ := h
  obtain ⟨xs, n, _, hx, hl, hlen, hg⟩ := Go.DataW.trod_struct Try.underlying26 hf
  rw [show Try.prog.cellsOf 26 = 8 by kernel_rfl] at hl
  have hcl : (Value.agg l.toArray).cells.toList = l := rfl
  rw [hcl] at hl hg
  have h0 := hg 0 _ rfl
  have h1 := hg 1 _ rfl
  have h2 := hg 2 _ rfl
  have h3 := hg 3 _ rfl
  match xs, hlen with
  | [x0, x1, x2, x3], _ =>
  match l, hl with
  | [a0, a1, a2, a3, a4, a5, a6, a7], _ =>
  have k0 : DataW.trod enc Try.prog w 0 (fun _ => true) held n 3 [a0] = some x0 := by simpa [show Try.prog.cellsOf 3 = 1 by kernel_rfl] using h0
  have k1 : DataW.trod enc Try.prog w 0 (fun _ => true) held n 22 [a1] = some x1 := by simpa [show Try.prog.cellsOf 22 = 1 by kernel_rfl] using h1
  have k2 : DataW.trod enc Try.prog w 0 (fun _ => true) held n 24 [a2, a3, a4, a5, a6] = some x2 := by simpa [show Try.prog.cellsOf 24 = 5 by kernel_rfl] using h2
  have k3 : DataW.trod enc Try.prog w 0 (fun _ => true) held n 3 [a7] = some x3 := by simpa [show Try.prog.cellsOf 3 = 1 by kernel_rfl] using h3
  obtain ⟨size, e0, _, w0⟩ := Go.DataW.trod_int Try.underlying3 k0
  obtain ⟨sec, e7, _, w7⟩ := Go.DataW.trod_int Try.underlying3 k3
  obtain ⟨ops, hr, hok⟩ := structs_of_trod (fun _ => rfl) opV_of Try.underlying22 Try.underlying24 (by kernel_rfl) (by kernel_rfl) (by kernel_rfl) k1
  obtain ⟨ys, n', _, _, _, hylen, hy⟩ := Go.DataW.trod_struct Try.underlying24 k2
  match ys, hylen with
  | [y0, y1, y2, y3, y4], _ =>
  have j0 : DataW.trod enc Try.prog w 0 (fun _ => true) held n' 3 [a2] = some y0 := by simpa [show Try.prog.cellsOf 3 = 1 by kernel_rfl] using hy 0 _ rfl
  have j1 : DataW.trod enc Try.prog w 0 (fun _ => true) held n' 3 [a3] = some y1 := by simpa [show Try.prog.cellsOf 3 = 1 by kernel_rfl] using hy 1 _ rfl
  have j2 : DataW.trod enc Try.prog w 0 (fun _ => true) held n' 3 [a4] = some y2 := by simpa [show Try.prog.cellsOf 3 = 1 by kernel_rfl] using hy 2 _ rfl
  have j3 : DataW.trod enc Try.prog w 0 (fun _ => true) held n' 3 [a5] = some y3 := by simpa [show Try.prog.cellsOf 3 = 1 by kernel_rfl] using hy 3 _ rfl
  have j4 : DataW.trod enc Try.prog w 0 (fun _ => true) held n' 5 [a6] = some y4 := by simpa [show Try.prog.cellsOf 5 = 1 by kernel_rfl] using hy 4 _ rfl
  obtain ⟨o, ho, hoo⟩ := opV_of [a2, a3, a4, a5, a6] ⟨rfl, fun j k hk => by
    match j, hk with
    | 0, hk => simp at hk; subst hk; exact ⟨a2, rfl, kd_of_trod (k := .int .i64) (by kernel_rfl) j0⟩
    | 1, hk => simp at hk; subst hk; exact ⟨a3, rfl, kd_of_trod (k := .int .i64) (by kernel_rfl) j1⟩
    | 2, hk => simp at hk; subst hk; exact ⟨a4, rfl, kd_of_trod (k := .int .i64) (by kernel_rfl) j2⟩
    | 3, hk => simp at hk; subst hk; exact ⟨a5, rfl, kd_of_trod (k := .int .i64) (by kernel_rfl) j3⟩
    | 4, hk => simp at hk; subst hk; exact ⟨a6, rfl, kd_of_trod (k := .int .u8) (by kernel_rfl) j4⟩⟩
  refine ⟨(size, a1, ops, o, sec), rfl, ?_, hr, hok, hoo, in64_wf w7⟩
  simp at e0 e7
  subst e0 e7
  simp only [opV, List.cons.injEq] at ho
  obtain ⟨rfl, rfl, rfl, rfl, rfl, _⟩ := ho
  rfl
end
theorem StableWhole_fits {v lv : Value} {l : List Op} {size sectors : Int} {o : Op} (hv : v = .agg (tornV size lv o sectors).toArray) (hl : RdS W opV 5 lv l) (hok : ∀ o ∈ l, Ok64 o) (ho : Ok64 o) (hsec : in64 sectors) :
    CallsR Try.prog 3 #[v] W fun r w' => r = .bool true ∧ Upd W w' [] := by
  subst hv
  exact StableWhole_spec hl hok ho hsec
end Go.Proofs.Ytdkahgknoohbpaa
