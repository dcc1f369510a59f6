/- StableApart. -/
import Derived.Test.YtdkahgknoohbpaaS7
namespace Go.Proofs.Ytdkahgknoohbpaa
open Go Xf Go.RowKit
set_option linter.unusedVariables false
set_option linter.unusedSimpArgs false
set_option maxRecDepth 100000

variable {w W : World} {ks : List Nat} {F : List (Nat × Obj)}

theorem end_val {d : Dv} {hand : Int} {a : Nat} {b : List UInt8} (h : hands hand) (hu : d.up.getD hand.toNat none = some (a, b)) (most : Int) : endD d hand most = (⟨putB d.B a b (cutL b.length most), d.up.set hand.toNat none⟩, 0) := by
  unfold endD
  rw [if_pos h, hu]
theorem getD_set_ne {α : Type} {l : List (Option α)} {i j : Nat} (x : Option α) (h : i ≠ j) : (l.set i x).getD j none = l.getD j none := by
  rw [List.getD_eq_getElem?_getD, List.getD_eq_getElem?_getD, List.getElem?_set_ne h]
theorem getD_set_eq {α : Type} {l : List (Option α)} {i : Nat} (x : Option α) (h : i < l.length) : (l.set i x).getD i none = x := by
  rw [List.getD_eq_getElem?_getD, List.getElem?_set_self h]; rfl
theorem putB_comm {B x y : List UInt8} {a b k m : Nat} (ha : a + x.length ≤ B.length) (hb : b + y.length ≤ B.length) (hk : k ≤ x.length) (hm : m ≤ y.length) (hd : a + k ≤ b ∨ b + m ≤ a) : putB (putB B a x k) b y m = putB (putB B b y m) a x k := by
  apply List.ext_getElem?
  intro i
  have l1 := putB_len ha hk
  have l2 := putB_len hb hm
  rw [putB_get (by omega) hm, putB_get ha hk, putB_get (by omega) hk, putB_get hb hm]
  by_cases h1 : b ≤ i ∧ i < b + m
  · rw [if_pos h1, if_neg (by omega), if_pos h1]
  · rw [if_neg h1, if_neg h1]
theorem box_at {G : List (Nat × Obj)} {g : Nat} {o : Op} (hF : (g, Obj.cells (opV o).toArray 24 (0, 0)) ∈ G) {w' : World} (ho : Owns w' G) : ∀ j u, (opV o)[j]? = some u → w'.cell? ((⟨g, 0, none⟩ : Addr).add j) = some u := fun j u hj => by
  rw [add_mk, cell_at (ho.2 _ hF), Nat.zero_add]; simpa using hj
theorem box1 {G : List (Nat × Obj)} {g : Nat} {o : Op} (hF : (g, Obj.cells (opV o).toArray 24 (0, 0)) ∈ G) {w' : World} (ho : Owns w' G) : w'.cell? ⟨g, 1, none⟩ = some (.int .i64 o.hand) := by have := box_at hF ho 1 _ rfl; rwa [add_mk] at this
theorem box2 {G : List (Nat × Obj)} {g : Nat} {o : Op} (hF : (g, Obj.cells (opV o).toArray 24 (0, 0)) ∈ G) {w' : World} (ho : Owns w' G) : w'.cell? ⟨g, 2, none⟩ = some (.int .i64 o.at_) := by have := box_at hF ho 2 _ rfl; rwa [add_mk] at this
theorem box4 {G : List (Nat × Obj)} {g : Nat} {o : Op} (hF : (g, Obj.cells (opV o).toArray 24 (0, 0)) ∈ G) {w' : World} (ho : Owns w' G) : w'.cell? ⟨g, 4, none⟩ = some (.int .u8 o.fill.toNat) := by have := box_at hF ho 4 _ rfl; rwa [add_mk] at this

theorem apart_rest {sectors : Int} {a b : Op} {g3 g4 : Nat} (ha : Ok64 a) (hb : Ok64 b) (hU : Upd W w []) (hO : Owns w F) (hF3 : (g3, .cells (opV a).toArray 24 (0, 0)) ∈ F) (hF4 : (g4, .cells (opV b).toArray 24 (0, 0)) ∈ F)
    (la : 0 ≤ longO a) (lb : 0 ≤ longO b) (hne : a.hand ≠ b.hand) (hap : ¬ (a.at_ < b.at_ + longO b ∧ b.at_ < a.at_ + longO a)) :
    flotillalaw08_StableApart_k1 (std Try.prog) (.int .i64 sectors) (.pointer (some ⟨g3, 0, none⟩)) (.pointer (some ⟨g4, 0, none⟩)) w fun r w' => r = .bool true ∧ Upd W w' [] := by
  have hla := longO_le a
  have hlb := longO_le b
  unfold flotillalaw08_StableApart_k1
  refine st_call (New_spec hU hO 4096) ?_
  rintro _ w1 ⟨hU1, ⟨hn, _⟩ | ⟨_, v, h, rfl, hd, hO1, hh⟩⟩
  · exact absurd (by decide) hn
  have e4096 : Int.toNat 4096 = 4096 := rfl
  rw [e4096] at hd
  have ok : DvOk (newD 4096) := DvOk.new (by decide) (by decide)
  have hlen0 : (newD 4096).B.length = 4096 := by simp [newD]
  generalize newD 4096 = d at *
  have hmost := ok.most
  obtain ⟨g, _, _, rfl, _⟩ := hd.cells (fun p hp => List.mem_append_left _ hp) hO1
  simp (disch := first | assumption | omega) only [PX, BX]
  have hS1 : SU W F w1.drew := ⟨hU1.trans (Upd.drew w1 []), (hO1.ext (Upd.drew w1 [])).sub (List.sublist_append_right _ _)⟩
  have hneS : ∃ w', SU W F w' := ⟨_, hS1⟩
  have fa : ∀ w', SU W F w' → ∀ j u, (opV a)[j]? = some u → w'.cell? ((⟨g3, 0, none⟩ : Addr).add j) = some u := fun w' hs => box_at hF3 hs.2
  have fb : ∀ w', SU W F w' → ∀ j u, (opV b)[j]? = some u → w'.cell? ((⟨g4, 0, none⟩ : Addr).add j) = some u := fun w' hs => box_at hF4 hs.2
  have fa4 : ∀ w', SU W F w' → w'.cell? ⟨g3, 4, none⟩ = some (.int .u8 a.fill.toNat) := fun w' hs => box4 hF3 hs.2
  have fb4 : ∀ w', SU W F w' → w'.cell? ⟨g4, 4, none⟩ = some (.int .u8 b.fill.toNat) := fun w' hs => box4 hF4 hs.2
  refine st_draw (SU W F) hS1 ?_
  simp (disch := first | assumption | omega) only [SX, SLX, add_mk, Nat.zero_add, sld_op hneS fa, sld_op hneS fb]
  have hO1' : Owns w1.drew (h ++ F) := hO1.ext (Upd.drew w1 [])
  have hsl : ∀ (l : List (Nat × Obj)), List.Sublist F (l ++ F) := fun l => List.sublist_append_right _ _
  refine st_call (long_spec hO1' hS1.1 a) ?_
  rintro _ w2 ⟨rfl, hU2, hO2⟩
  refine st_same (show SU W F w2 from ⟨hU2, hO2.sub (hsl _)⟩) ?_
  obtain ⟨na, hna⟩ : ∃ n : Nat, longO a = n := ⟨(longO a).toNat, by omega⟩
  obtain ⟨nb, hnb⟩ : ∃ n : Nat, longO b = n := ⟨(longO b).toNat, by omega⟩
  rw [hna]
  refine st_call (filled_spec hO2 hU2 na (by omega) a.fill) ?_
  rintro va w3 ⟨h3, hr3, hO3, hU3, hh3⟩
  refine st_same (show SU W F w3 from ⟨hU3, hO3.sub ((hsl h).trans (List.sublist_append_right _ _))⟩) ?_
  refine st_call (long_spec hO3 hU3 b) ?_
  rintro _ w4 ⟨rfl, hU4, hO4⟩
  refine st_same (show SU W F w4 from ⟨hU4, hO4.sub ((hsl h).trans (List.sublist_append_right _ _))⟩) ?_
  rw [hnb]
  refine st_call (filled_spec hO4 hU4 nb (by omega) b.fill) ?_
  rintro vb w5 ⟨h5, hr5, hO5, hU5, hh5⟩
  refine st_keepT (fun _ => True) trivial ?_
  -- the device ahead of the rest
  have hO5' : Owns w5 (h ++ (h5 ++ (h3 ++ F))) := hO5.perm (perm3 _ _ _ _)
  have hF3' : (g3, Obj.cells (opV a).toArray 24 (0, 0)) ∈ h5 ++ (h3 ++ F) := List.mem_append_right _ (List.mem_append_right _ hF3)
  have hF4' : (g4, Obj.cells (opV b).toArray 24 (0, 0)) ∈ h5 ++ (h3 ++ F) := List.mem_append_right _ (List.mem_append_right _ hF4)
  have m3 : ∀ p ∈ h3, p ∈ h5 ++ (h3 ++ F) := fun p hp => List.mem_append_right _ (List.mem_append_left _ hp)
  have m5 : ∀ p ∈ h5, p ∈ h5 ++ (h3 ++ F) := fun p hp => List.mem_append_left _ hp
  generalize h5 ++ (h3 ++ F) = R at *
  have c1 := box1 (List.mem_append_right h hF3') hO5'
  have c2 := box2 (List.mem_append_right h hF3') hO5'
  simp (disch := first | assumption | omega) only [PX, BX, LX, add_mk, Nat.zero_add]
  refine st_call (Start_spec (b := List.replicate na a.fill) ok hd hO5' hU5 (fresh_nil hh) (by rw [List.length_replicate]; exact hr3.rdIn fun p hp => hO5'.2 p (List.mem_append_right _ (m3 p hp))) (by rw [List.length_replicate]; omega) a.hand a.at_ ⟨ha.2.2.1.1, ha.2.2.1.2⟩) ?_
  rintro _ w6 ⟨rfl, hU6, h6, hd6, hO6, hh6⟩
  simp (disch := first | assumption | omega) only [PX, BX]
  refine ⟨fun _ => lives_end hU6, fun hz1 => ?_⟩
  obtain ⟨a1, a2, a3, a4, a5, a6, a7, a8⟩ := start_ok (Decidable.not_not.1 hz1)
  have ok6 := ok.start a.hand a.at_ (List.replicate na a.fill)
  rw [a8] at hd6 ok6
  rw [List.length_replicate] at a4 a5 a6
  have c1 := box1 (List.mem_append_right h6 hF4') hO6
  have c2 := box2 (List.mem_append_right h6 hF4') hO6
  simp (disch := first | assumption | omega) only [PX, BX, LX, add_mk, Nat.zero_add]
  refine st_call (Start_spec (b := List.replicate nb b.fill) ok6 hd6 hO6 hU6 hh6 (by rw [List.length_replicate]; exact hr5.rdIn fun p hp => hO6.2 p (List.mem_append_right _ (m5 p hp))) (by rw [List.length_replicate]; omega) b.hand b.at_ ⟨hb.2.2.1.1, hb.2.2.1.2⟩) ?_
  rintro _ w7 ⟨rfl, hU7, h7, hd7, hO7, hh7⟩
  simp (disch := first | assumption | omega) only [PX, BX]
  refine ⟨fun _ => lives_end hU7, fun hz2 => ?_⟩
  obtain ⟨b1, b2, b3, b4, b5, b6, b7, b8⟩ := start_ok (Decidable.not_not.1 hz2)
  have ok7 := ok6.start b.hand b.at_ (List.replicate nb b.fill)
  rw [b8] at hd7 ok7
  rw [List.length_replicate] at b4 b5 b6
  dsimp only at hd7 ok7 b6
  have hhne : a.hand.toNat ≠ b.hand.toNat := by unfold hands at a1 b1; omega
  have ea8 : a.hand.toNat < 8 := by unfold hands at a1; omega
  have eb8 : b.hand.toNat < 8 := by unfold hands at b1; omega
  have h8 := ok.eight
  -- four ends
  let up2 : List Wr := (d.up.set a.hand.toNat (some (a.at_.toNat, List.replicate na a.fill))).set b.hand.toNat (some (b.at_.toNat, List.replicate nb b.fill))
  have ga : up2.getD a.hand.toNat none = some (a.at_.toNat, List.replicate na a.fill) := by
    rw [getD_set_ne _ (Ne.symm hhne), getD_set_eq _ (by omega)]
  have gb : up2.getD b.hand.toNat none = some (b.at_.toNat, List.replicate nb b.fill) := getD_set_eq _ (by rw [List.length_set]; omega)
  obtain ⟨m, hm⟩ : ∃ m : Int, (if sectors < 0 then 0 else sectors) = m := ⟨_, rfl⟩
  have dd1 : crashD ⟨d.B, up2⟩ a.hand sectors = (⟨putB d.B a.at_.toNat (List.replicate na a.fill) (cutL na m), up2.set a.hand.toNat none⟩, 0) := by
    unfold crashD; rw [end_val a1 ga, hm, List.length_replicate]
  have dd2 : endD ⟨putB d.B a.at_.toNat (List.replicate na a.fill) (cutL na m), up2.set a.hand.toNat none⟩ b.hand (-1) = (⟨putB (putB d.B a.at_.toNat (List.replicate na a.fill) (cutL na m)) b.at_.toNat (List.replicate nb b.fill) nb, (up2.set a.hand.toNat none).set b.hand.toNat none⟩, 0) := by
    rw [end_val b1 (by rw [getD_set_ne _ hhne]; exact gb), List.length_replicate]; rfl
  have ee1 : endD ⟨d.B, up2⟩ b.hand (-1) = (⟨putB d.B b.at_.toNat (List.replicate nb b.fill) nb, up2.set b.hand.toNat none⟩, 0) := by
    rw [end_val b1 gb, List.length_replicate]; rfl
  have ee2 : crashD ⟨putB d.B b.at_.toNat (List.replicate nb b.fill) nb, up2.set b.hand.toNat none⟩ a.hand sectors = (⟨putB (putB d.B b.at_.toNat (List.replicate nb b.fill) nb) a.at_.toNat (List.replicate na a.fill) (cutL na m), (up2.set b.hand.toNat none).set a.hand.toNat none⟩, 0) := by
    unfold crashD; rw [end_val a1 (by rw [getD_set_ne _ (Ne.symm hhne)]; exact ga), hm, List.length_replicate]
  have hcut := cutL_le na m
  have hcomm := putB_comm (B := d.B) (x := List.replicate na a.fill) (y := List.replicate nb b.fill) (a := a.at_.toNat) (b := b.at_.toNat) (k := cutL na m) (m := nb) (by rw [List.length_replicate]; omega) (by rw [List.length_replicate]; omega) (by rw [List.length_replicate]; omega) (by rw [List.length_replicate]; omega) (by omega)
  have hl1 := putB_len (B := d.B) (a := a.at_.toNat) (b := List.replicate na a.fill) (k := cutL na m) (by rw [List.length_replicate]; omega) (by rw [List.length_replicate]; omega)
  have hbk := putB_back (B := putB d.B a.at_.toNat (List.replicate na a.fill) (cutL na m)) (a := b.at_.toNat) (b := List.replicate nb b.fill) (by rw [List.length_replicate]; omega)
  have hl2 := putB_len (B := putB d.B a.at_.toNat (List.replicate na a.fill) (cutL na m)) (a := b.at_.toNat) (b := List.replicate nb b.fill) (k := nb) (by rw [List.length_replicate]; omega) (by rw [List.length_replicate]; omega)
  rw [List.length_replicate] at hbk
  refine st_call (Clone_spec ok7 hd7 (fun p hp => List.mem_append_left _ hp) hO7 hU7) ?_
  rintro vc w8 ⟨hU8, hc, hdc, hO8, hhc⟩
  obtain ⟨gc, _, _, rfl, _⟩ := hdc.cells (fun p hp => List.mem_append_left _ hp) hO8
  have hO8' : Owns w8 (h7 ++ (hc ++ R)) := hO8.perm (List.perm_append_comm_assoc _ _ _)
  have c1 := box1 (List.mem_append_right h7 (List.mem_append_right hc hF3')) hO8'
  simp (disch := first | assumption | omega) only [PX, BX, LX, add_mk, Nat.zero_add]
  refine st_call (Crash_spec ok7 hd7 hO8' hU8 hh7 a.hand sectors) ?_
  rintro _ w9 ⟨rfl, hU9, h9, hd9, hO9, hh9⟩
  have ok9 : DvOk (crashD ⟨d.B, up2⟩ a.hand sectors).1 := ok7.end_ _ _
  rw [show crashD _ a.hand sectors = _ from dd1] at hd9 ⊢
  rw [dd1] at ok9
  have c1 := box1 (List.mem_append_right h9 (List.mem_append_right hc hF4')) hO9
  simp (disch := first | assumption | omega) only [PX, BX, LX, add_mk, Nat.zero_add]
  refine ⟨fun h => absurd rfl h, fun _ => ?_⟩
  refine st_call (Finish_spec ok9 hd9 hO9 hU9 hh9 b.hand) ?_
  rintro _ w10 ⟨rfl, hU10, h10, hd10, hO10, hh10⟩
  have ok10 := ok9.end_ b.hand (-1)
  rw [dd2] at hd10 ok10 ⊢
  have hO10' : Owns w10 (hc ++ (h10 ++ R)) := hO10.perm (List.perm_append_comm_assoc _ _ _)
  have c1 := box1 (List.mem_append_right hc (List.mem_append_right h10 hF4')) hO10'
  simp (disch := first | assumption | omega) only [PX, BX, LX, add_mk, Nat.zero_add]
  refine ⟨fun h => absurd rfl h, fun _ => ?_⟩
  refine st_call (Finish_spec ok7 hdc hO10' hU10 (fresh_nil hhc) b.hand) ?_
  rintro _ w11 ⟨rfl, hU11, h11, hd11, hO11, hh11⟩
  have ok11 := ok7.end_ b.hand (-1)
  rw [show endD _ b.hand (-1) = _ from ee1] at hd11 ok11 ⊢
  have c1 := box1 (List.mem_append_right h11 (List.mem_append_right h10 hF3')) hO11
  simp (disch := first | assumption | omega) only [PX, BX, LX, add_mk, Nat.zero_add]
  refine ⟨fun h => absurd rfl h, fun _ => ?_⟩
  refine st_call (Crash_spec ok11 hd11 hO11 hU11 hh11 a.hand sectors) ?_
  rintro _ w12 ⟨rfl, hU12, h12, hd12, hO12, hh12⟩
  have ok12 : DvOk (crashD _ a.hand sectors).1 := ok11.end_ _ _
  rw [ee2] at hd12 ok12 ⊢
  rw [← hcomm] at hd12 ok12
  simp (disch := first | assumption | omega) only [PX, BX, LX, add_mk, Nat.zero_add]
  refine ⟨fun h => absurd rfl h, fun _ => ?_⟩
  generalize hBe : putB (putB d.B a.at_.toNat (List.replicate na a.fill) (cutL na m)) b.at_.toNat (List.replicate nb b.fill) nb = Be at *
  refine st_call (Read_spec hd10 ok10.most (fun p hp => List.mem_append_right _ (List.mem_append_left _ hp)) hO12 hU12 0 4096) ?_
  rintro _ w13 ⟨hU13, ⟨hro, _⟩ | ⟨_, vu, hu, rfl, hru, hO13, hhu⟩⟩
  · unfold readOut at hro; dsimp only at hro; omega
  simp (disch := first | assumption | omega) only [PX, BX, LX, add_mk, Nat.zero_add]
  refine st_call (Read_spec hd12 ok12.most (fun p hp => List.mem_append_right _ (List.mem_append_left _ hp)) hO13 hU13 0 4096) ?_
  rintro _ w14 ⟨hU14, ⟨hro, _⟩ | ⟨_, vv, hv, rfl, hrv, hO14, hhv⟩⟩
  · unfold readOut at hro; dsimp only at hro; omega
  dsimp only at hru hrv
  have hS14 := SU.drew hU14 hO14
  have hne14 : ∃ w', SU W (hv ++ (hu ++ (h12 ++ (h10 ++ R)))) w' := ⟨_, hU14, hO14⟩
  have hFR : (g4, Obj.cells (opV b).toArray 24 (0, 0)) ∈ hv ++ (hu ++ (h12 ++ (h10 ++ R))) := List.mem_append_right _ (List.mem_append_right _ (List.mem_append_right _ (List.mem_append_right _ hF4')))
  have gb2 : ∀ w', SU W (hv ++ (hu ++ (h12 ++ (h10 ++ R)))) w' → w'.cell? ⟨g4, 2, none⟩ = some (.int .i64 b.at_) := fun w' hs => box2 hFR hs.2
  have gbf : ∀ w', SU W (hv ++ (hu ++ (h12 ++ (h10 ++ R)))) w' → ∀ j u, (opV b)[j]? = some u → w'.cell? ((⟨g4, 0, none⟩ : Addr).add j) = some u := fun w' hs => box_at hFR hs.2
  simp (disch := first | assumption | omega) only [PX, BX, LX, add_mk, Nat.zero_add]
  refine st_draw (SU W (hv ++ (hu ++ (h12 ++ (h10 ++ R))))) hS14 ?_
  simp (disch := first | assumption | omega) only [SX, SLX, add_mk, Nat.zero_add, sld_op hne14 gbf]
  refine st_call (long_spec hS14.2 hS14.1 b) ?_
  rintro _ w15 ⟨rfl, hU15, hO15⟩
  rw [hnb]
  refine st_same (show SU W _ w15 from ⟨hU15, hO15⟩) ?_
  refine st_call (Read_spec hd10 ok10.most (fun p hp => List.mem_append_right _ (List.mem_append_right _ (List.mem_append_right _ (List.mem_append_left _ hp)))) hO15 hU15 b.at_ nb) ?_
  rintro _ w16 ⟨hU16, ⟨hro, _⟩ | ⟨_, vr, hr, rfl, hrr, hO16, hhr⟩⟩
  · unfold readOut at hro; dsimp only at hro; omega
  dsimp only at hrr
  rw [Int.toNat_natCast, hbk] at hrr
  refine st_keepT (fun _ => True) trivial ?_
  have hneT : ∃ w' : World, (fun _ : World => True) w' := ⟨w16, trivial⟩
  have ru : Rd w16 1 vu _ (bytesV _) := hru.rdIn fun p hp => hO16.2 p (List.mem_append_right _ (List.mem_append_right _ (List.mem_append_left _ hp)))
  have rv : Rd w16 1 vv _ (bytesV _) := hrv.rdIn fun p hp => hO16.2 p (List.mem_append_right _ (List.mem_append_left _ hp))
  have rr : Rd w16 1 vr _ (bytesV _) := hrr.rdIn fun p hp => hO16.2 p (List.mem_append_left _ hp)
  have rb : Rd w16 1 vb _ (bytesV _) := hr5.rdIn fun p hp => hO16.2 p (List.mem_append_right _ (List.mem_append_right _ (List.mem_append_right _ (List.mem_append_right _ (List.mem_append_right _ (m5 p hp))))))
  simp (disch := first | assumption | omega) only [SX, PX, BX, st_str ru, st_str rv, st_str rr, st_str rb]
  refine ⟨fun _ => ⟨fun _ => lives_end hU16, fun h => absurd trivial h⟩, fun h => absurd trivial h⟩

theorem StableApart_spec {a b : Op} {sectors : Int} (ha : Ok64 a) (hb : Ok64 b) :
    CallsR Try.prog 5 #[.agg (opV a).toArray, .agg (opV b).toArray, .int .i64 sectors] W fun r w' => r = .bool true ∧ Upd W w' [] := by
  have hla := longO_le a
  have hlb := longO_le b
  apply flotillalaw08_StableApart_sound
  unfold flotillalaw08_StableApart_x
  refine st_box (Upd.refl W []) (Owns.nil W) ?_
  intro g3 w1 hU1 hO1 hg3
  refine st_box hU1 hO1 ?_
  intro g4 w2 hU2 hO2 hg4
  let F : List (Nat × Obj) := [(g4, .cells (opV b).toArray 24 (0, 0)), (g3, .cells (opV a).toArray 24 (0, 0))]
  have hS : SU W F w2.drew := SU.drew hU2 hO2
  have hF3 : (g3, Obj.cells (opV a).toArray 24 (0, 0)) ∈ F := .tail _ (.head _)
  have hF4 : (g4, Obj.cells (opV b).toArray 24 (0, 0)) ∈ F := .head _
  have hneS : ∃ w', SU W F w' := ⟨_, hS⟩
  have fa : ∀ w', SU W F w' → ∀ j u, (opV a)[j]? = some u → w'.cell? ((⟨g3, 0, none⟩ : Addr).add j) = some u := fun w' hs => box_at hF3 hs.2
  have fb : ∀ w', SU W F w' → ∀ j u, (opV b)[j]? = some u → w'.cell? ((⟨g4, 0, none⟩ : Addr).add j) = some u := fun w' hs => box_at hF4 hs.2
  have fa1 : ∀ w', SU W F w' → w'.cell? ⟨g3, 1, none⟩ = some (.int .i64 a.hand) := fun w' hs => box1 hF3 hs.2
  have fb1 : ∀ w', SU W F w' → w'.cell? ⟨g4, 1, none⟩ = some (.int .i64 b.hand) := fun w' hs => box1 hF4 hs.2
  have fa2 : ∀ w', SU W F w' → w'.cell? ⟨g3, 2, none⟩ = some (.int .i64 a.at_) := fun w' hs => box2 hF3 hs.2
  have fb2 : ∀ w', SU W F w' → w'.cell? ⟨g4, 2, none⟩ = some (.int .i64 b.at_) := fun w' hs => box2 hF4 hs.2
  refine st_draw (SU W F) hS ?_
  rw [sld_op hneS fa]
  refine st_call (long_spec hS.2 hS.1 a) ?_
  rintro _ w3 ⟨rfl, hU3, hO3⟩
  refine st_keepT (SU W F) ⟨hU3, hO3⟩ ?_
  simp (disch := first | assumption | omega) only [SX, SLX, BX, add_mk, Nat.zero_add, sld_op hneS fb, flotillalaw08_StableApart_k4]
  refine ⟨fun _ => lives_end hU3, fun la => ?_⟩
  refine st_call (long_spec hO3 hU3 b) ?_
  rintro _ w4 ⟨rfl, hU4, hO4⟩
  refine st_keepT (SU W F) ⟨hU4, hO4⟩ ?_
  simp (disch := first | assumption | omega) only [SX, SLX, BX, add_mk, Nat.zero_add, sld_op hneS fb, flotillalaw08_StableApart_k4]
  refine ⟨fun _ => lives_end hU4, fun lb => ⟨fun _ => lives_end hU4, fun hne => ⟨fun _ => lives_end hU4, fun q1 => ⟨fun _ => lives_end hU4, fun q2 => ⟨fun _ => lives_end hU4, fun q3 => ⟨fun _ => lives_end hU4, fun q4 => ?_⟩⟩⟩⟩⟩⟩
  refine st_call (long_spec hO4 hU4 b) ?_
  rintro _ w5 ⟨rfl, hU5, hO5⟩
  refine st_same (show SU W F w5 from ⟨hU5, hO5⟩) ?_
  have e1 : IntKind.wrap .i64 (b.at_ + longO b) = b.at_ + longO b := w64 (by omega) (by omega)
  have e2 : IntKind.wrap .i64 (a.at_ + longO a) = a.at_ + longO a := w64 (by omega) (by omega)
  simp (disch := first | assumption | omega) only [SX, SLX, BX, add_mk, Nat.zero_add, sld_op hneS fa, e1]
  refine ⟨fun q5 => ?_, fun q5 => apart_rest ha hb hU5 hO5 hF3 hF4 (by omega) (by omega) hne (fun h => q5 h.1)⟩
  refine st_call (long_spec hO5 hU5 a) ?_
  rintro _ w6 ⟨rfl, hU6, hO6⟩
  refine st_same (show SU W F w6 from ⟨hU6, hO6⟩) ?_
  simp (disch := first | assumption | omega) only [SX, SLX, BX, add_mk, Nat.zero_add, e2]
  exact ⟨fun _ => lives_end hU6, fun q6 => apart_rest ha hb hU6 hO6 hF3 hF4 (by omega) (by omega) hne (fun h => q6 h.2)⟩
end Go.Proofs.Ytdkahgknoohbpaa
