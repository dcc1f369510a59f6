/- StableClones. -/
import Derived.Test.YtdkahgknoohbpaaS6
namespace Go.Proofs.Ytdkahgknoohbpaa
open Go Xf Go.RowKit
set_option linter.unusedVariables false
set_option linter.unusedSimpArgs false
set_option maxRecDepth 100000

variable {w W : World} {ks : List Nat} {F : List (Nat × Obj)}

theorem st_str {v : Value} {n : Nat} {l : List UInt8} {K : Value → World → Prop} (h : Rd w 1 v n (bytesV l)) : (std Try.prog).step (sConv 34 9 v) w K = K (.string ⟨l.toArray⟩) w :=
  step_run (run_str u34 u5 u9 h)
theorem sst_str {S : World → Prop} {v : Value} {n : Nat} {l : List UInt8} {k : Value → Prop} (hne : ∃ w, S w) (h : ∀ w, S w → Rd w 1 v n (bytesV l)) : (std Try.prog).stepS S (sConv 34 9 v) k = k (.string ⟨l.toArray⟩) :=
  stepS_run hne fun w hw => run_str u34 u5 u9 (h w hw)
theorem putB_back {B : List UInt8} {a : Nat} {b : List UInt8} (h : a + b.length ≤ B.length) : ((putB B a b b.length).drop a).take b.length = b := by
  have l1 : (B.take a).length = a := by rw [List.length_take]; omega
  unfold putB
  rw [List.append_assoc, List.drop_append, List.drop_of_length_le (by omega), l1, Nat.sub_self, List.drop_zero, List.nil_append, List.take_length, List.take_left]
theorem perm3 {α : Type} (A B C D : List α) : List.Perm (A ++ (B ++ (C ++ D))) (C ++ (A ++ (B ++ D))) :=
  (List.Perm.append_left A (List.perm_append_comm_assoc B C D)).trans (List.perm_append_comm_assoc A C _)

theorem clones_k4 {o : Op} {v0 : Value} {d : Dv} (ho : Ok64 o) (ok : DvOk d) {g5 : Nat} {h : List (Nat × Obj)} (hU : Upd W w []) (hz : (beginD d o).2 = 0) (hd : DevH (beginD d o).1 v0 h) (hO : Owns w (h ++ F)) (hh : ∀ p ∈ h, W.heap.size ≤ p.1)
    (hF : (g5, .cells (opV o).toArray 24 (0, 0)) ∈ F) (hl0 : 0 ≤ longO o) :
    flotillalaw08_StableClones_k4 (std Try.prog) (.pointer (some ⟨g5, 0, none⟩)) v0 w fun r w' => r = .bool true ∧ Upd W w' [] := by
  have hmost := ok.most
  have hlo := longO_le o
  obtain ⟨s1, s2, s3, s4, s5, s6, s7, s8⟩ := start_ok hz
  have ok1 : DvOk (beginD d o).1 := ok.start _ _ _
  unfold flotillalaw08_StableClones_k4
  have hgF : ∀ {w' : World} {l : List (Nat × Obj)}, Owns w' l → (∀ p ∈ F, p ∈ l) → ∀ j u, (opV o)[j]? = some u → w'.cell? ((⟨g5, 0, none⟩ : Addr).add j) = some u := fun ho hs j u hj => by
    rw [add_mk, cell_at (ho.2 _ (hs _ hF)), Nat.zero_add]; simpa using hj
  have hF1 : ∀ {w' : World} {l : List (Nat × Obj)}, Owns w' l → (∀ p ∈ F, p ∈ l) → w'.cell? ⟨g5, 1, none⟩ = some (.int .i64 o.hand) := fun ho hs => by have := hgF ho hs 1 _ rfl; rwa [add_mk] at this
  have hF2 : ∀ {w' : World} {l : List (Nat × Obj)}, Owns w' l → (∀ p ∈ F, p ∈ l) → w'.cell? ⟨g5, 2, none⟩ = some (.int .i64 o.at_) := fun ho hs => by have := hgF ho hs 2 _ rfl; rwa [add_mk] at this
  have hF4 : ∀ {w' : World} {l : List (Nat × Obj)}, Owns w' l → (∀ p ∈ F, p ∈ l) → w'.cell? ⟨g5, 4, none⟩ = some (.int .u8 o.fill.toNat) := fun ho hs => by have := hgF ho hs 4 _ rfl; rwa [add_mk] at this
  have c1 := hF1 hO (fun p hp => List.mem_append_right _ hp)
  simp (disch := first | assumption | omega) only [PX, BX, LX, add_mk, Nat.zero_add]
  refine st_call (Finish_spec ok1 hd hO hU (fresh_nil hh) o.hand) ?_
  rintro _ w1 ⟨rfl, hU1, h1, hd1, hO1, hh1⟩
  have ok2 := ok1.end_ o.hand (-1)
  have hend : endD (beginD d o).1 o.hand (-1) = (⟨putB d.B o.at_.toNat (List.replicate (longO o).toNat o.fill) (longO o).toNat, (d.up.set o.hand.toNat (some (o.at_.toNat, List.replicate (longO o).toNat o.fill))).set o.hand.toNat none⟩, 0) := by
    unfold beginD
    rw [s8, end_set s1 ok.eight, List.length_replicate]
    rfl
  rw [hend] at hd1 ok2 ⊢
  simp (disch := first | assumption | omega) only [PX, BX]
  refine ⟨fun h => absurd rfl h, fun _ => ?_⟩
  rw [List.length_replicate] at s4 s5 s6
  obtain ⟨n, hn⟩ : ∃ n : Nat, longO o = n := ⟨(longO o).toNat, by omega⟩
  rw [hn, Int.toNat_natCast] at s4 s5 s6 hd1 ok2
  have hbk := putB_back (B := d.B) (a := o.at_.toNat) (b := List.replicate n o.fill) (by rw [List.length_replicate]; exact s6)
  have hbl := putB_len (B := d.B) (a := o.at_.toNat) (b := List.replicate n o.fill) (k := n) (by rw [List.length_replicate]; exact s6) (by rw [List.length_replicate]; exact Nat.le_refl _)
  rw [List.length_replicate] at hbk
  generalize putB d.B o.at_.toNat (List.replicate n o.fill) n = Bn at *
  have hsF : ∀ p ∈ F, p ∈ h1 ++ F := fun p hp => List.mem_append_right _ hp
  have hS1 : SU W (h1 ++ F) w1.drew := SU.drew hU1 hO1
  have hne : ∃ w', SU W (h1 ++ F) w' := ⟨_, hS1⟩
  have qf : ∀ w', SU W (h1 ++ F) w' → ∀ j u, (opV o)[j]? = some u → w'.cell? ((⟨g5, 0, none⟩ : Addr).add j) = some u := fun w' hs => hgF hs.2 hsF
  have q2 : ∀ w', SU W (h1 ++ F) w' → w'.cell? ⟨g5, 2, none⟩ = some (.int .i64 o.at_) := fun w' hs => hF2 hs.2 hsF
  refine st_draw (SU W (h1 ++ F)) hS1 ?_
  simp (disch := first | assumption | omega) only [SX, SLX, add_mk, Nat.zero_add, sld_op hne qf]
  refine st_call (long_spec hS1.2 hS1.1 o) ?_
  rintro _ w2 ⟨rfl, hU2, hO2⟩
  rw [hn]
  refine st_same (show SU W (h1 ++ F) w2 from ⟨hU2, hO2⟩) ?_
  refine st_call (Read_spec hd1 ok2.most (fun p hp => List.mem_append_left _ hp) hO2 hU2 o.at_ n) ?_
  rintro _ w3 ⟨hU3, ⟨hro, _⟩ | ⟨_, vr, hr, rfl, hrr, hO3, hhr⟩⟩
  · unfold readOut at hro; dsimp only at hro; omega
  rw [Int.toNat_natCast] at hrr
  dsimp only at hrr
  rw [hbk] at hrr
  have hsF3 : ∀ p ∈ F, p ∈ hr ++ (h1 ++ F) := fun p hp => List.mem_append_right _ (hsF p hp)
  refine st_keepT (SU W (hr ++ (h1 ++ F))) ⟨hU3, hO3⟩ ?_
  have hne3 : ∃ w', SU W (hr ++ (h1 ++ F)) w' := ⟨_, hU3, hO3⟩
  simp (disch := first | assumption | omega) only [SX, SLX, add_mk, Nat.zero_add]
  have hS3 : SU W (hr ++ (h1 ++ F)) w3.drew := SU.drew hU3 hO3
  refine st_draw (SU W (hr ++ (h1 ++ F))) hS3 ?_
  have qf3 : ∀ w', SU W (hr ++ (h1 ++ F)) w' → ∀ j u, (opV o)[j]? = some u → w'.cell? ((⟨g5, 0, none⟩ : Addr).add j) = some u := fun w' hs => hgF hs.2 hsF3
  have q4 : ∀ w', SU W (hr ++ (h1 ++ F)) w' → w'.cell? ⟨g5, 4, none⟩ = some (.int .u8 o.fill.toNat) := fun w' hs => hF4 hs.2 hsF3
  have qr : ∀ w', SU W (hr ++ (h1 ++ F)) w' → Rd w' 1 vr n (bytesV (List.replicate n o.fill)) := fun w' hs => hrr.rdIn fun p hp => hs.2.2 p (List.mem_append_left _ hp)
  simp (disch := first | assumption | omega) only [SX, SLX, BX, add_mk, Nat.zero_add, sld_op hne3 qf3, sst_str hne3 qr]
  refine ⟨fun _ => ?_, fun h => absurd trivial h⟩
  refine st_call (long_spec hS3.2 hS3.1 o) ?_
  rintro _ w4 ⟨rfl, hU4, hO4⟩
  rw [hn]
  refine st_same (show SU W (hr ++ (h1 ++ F)) w4 from ⟨hU4, hO4⟩) ?_
  refine st_call (filled_spec hO4 hU4 n (by omega) o.fill) ?_
  rintro v5 w5 ⟨h5, hr5, hO5, hU5, hh5⟩
  refine st_keepS (fun w' => SU W (hr ++ (h1 ++ F)) w' ∧ Owns w' (h5 ++ (hr ++ (h1 ++ F)))) (fun _ h => h.1) ⟨⟨hU5, hO5.sub (List.sublist_append_right _ _)⟩, hO5⟩ ?_
  have hne5 : ∃ w', (fun w' => SU W (hr ++ (h1 ++ F)) w' ∧ Owns w' (h5 ++ (hr ++ (h1 ++ F)))) w' := ⟨w5, ⟨hU5, hO5.sub (List.sublist_append_right _ _)⟩, hO5⟩
  have q5 : ∀ w', (fun w' => SU W (hr ++ (h1 ++ F)) w' ∧ Owns w' (h5 ++ (hr ++ (h1 ++ F)))) w' → Rd w' 1 v5 n (bytesV (List.replicate n o.fill)) := fun w' hs => hr5.rdIn fun p hp => hs.2.2 p (List.mem_append_left _ hp)
  rw [sst_str hne5 q5]
  simp (disch := first | assumption | omega) only [SX, BX]
  refine ⟨fun _ => ?_, fun h => absurd trivial h⟩
  refine st_call (lives_spec hU5) ?_
  rintro _ w6 ⟨rfl, hU6⟩
  exact st_keepT (fun _ => True) trivial ⟨rfl, hU6⟩

theorem clones_rest {size : Nat} {o : Op} {v0 v5 : Value} {d : Dv} (ho : Ok64 o) (ok : DvOk d) (hlen : d.B.length = size) {g5 : Nat} (h5 : v5 = .pointer (some ⟨g5, 0, none⟩)) {h : List (Nat × Obj)} (hU : Upd W w []) (hd : DevH d v0 h) (hO : Owns w (h ++ F)) (hh : ∀ p ∈ h, W.heap.size ≤ p.1)
    (hF : (g5, .cells (opV o).toArray 24 (0, 0)) ∈ F) (hl0 : 0 ≤ longO o) :
    flotillalaw08_StableClones_k2 (std Try.prog) (.int .i64 (size : Nat)) v5 v0 w fun r w' => r = .bool true ∧ Upd W w' [] := by
  subst h5
  have hmost := ok.most
  have h64 := ok.m64
  have hlo := longO_le o
  unfold flotillalaw08_StableClones_k2
  refine st_call (Clone_spec ok hd (fun p hp => List.mem_append_left _ hp) hO hU) ?_
  rintro vc w1 ⟨hU1, hc, hdc, hO1, hhc⟩
  obtain ⟨gc, _, _, rfl, _⟩ := hdc.cells (fun p hp => List.mem_append_left _ hp) hO1
  simp (disch := first | assumption | omega) only [PX, BX]
  refine st_call (Read_spec hd ok.most (fun p hp => List.mem_append_right _ (List.mem_append_left _ hp)) hO1 hU1 0 size) ?_
  rintro _ w2 ⟨hU2, ⟨hn, _⟩ | ⟨_, vw, hw, rfl, hrw, hO2, hhw⟩⟩
  · unfold readOut at hn; omega
  rw [Int.toNat_zero, List.drop_zero, Int.toNat_natCast, List.take_of_length_le (by omega)] at hrw
  have hO2' : Owns w2 (hc ++ (h ++ (hw ++ F))) := hO2.perm ((List.perm_append_comm_assoc _ _ _).trans (List.Perm.append_left _ (List.perm_append_comm_assoc _ _ _)))
  have hgF : ∀ {w' : World} {l : List (Nat × Obj)}, Owns w' l → (∀ p ∈ F, p ∈ l) → ∀ j u, (opV o)[j]? = some u → w'.cell? ((⟨g5, 0, none⟩ : Addr).add j) = some u := fun ho hs j u hj => by
    rw [add_mk, cell_at (ho.2 _ (hs _ hF)), Nat.zero_add]; simpa using hj
  have hF1 : ∀ {w' : World} {l : List (Nat × Obj)}, Owns w' l → (∀ p ∈ F, p ∈ l) → w'.cell? ⟨g5, 1, none⟩ = some (.int .i64 o.hand) := fun ho hs => by have := hgF ho hs 1 _ rfl; rwa [add_mk] at this
  have hF2 : ∀ {w' : World} {l : List (Nat × Obj)}, Owns w' l → (∀ p ∈ F, p ∈ l) → w'.cell? ⟨g5, 2, none⟩ = some (.int .i64 o.at_) := fun ho hs => by have := hgF ho hs 2 _ rfl; rwa [add_mk] at this
  have hF4 : ∀ {w' : World} {l : List (Nat × Obj)}, Owns w' l → (∀ p ∈ F, p ∈ l) → w'.cell? ⟨g5, 4, none⟩ = some (.int .u8 o.fill.toNat) := fun ho hs => by have := hgF ho hs 4 _ rfl; rwa [add_mk] at this
  have c1 := hF1 hO2' (fun p hp => List.mem_append_right _ (List.mem_append_right _ (List.mem_append_right _ hp)))
  simp (disch := first | assumption | omega) only [PX, BX, LX, add_mk, Nat.zero_add]
  refine st_call (Flying_spec ok hd (fun p hp => List.mem_append_right _ (List.mem_append_left _ hp)) hO2' hU2 o.hand) ?_
  rintro _ w3 ⟨rfl, hU3, hO3⟩
  have c1 := hF1 hO3 (fun p hp => List.mem_append_right _ (List.mem_append_right _ (List.mem_append_right _ hp)))
  simp (disch := first | assumption | omega) only [flyV, PX, BX, LX, add_mk, Nat.zero_add]
  refine st_call (Finish_spec ok hdc hO3 hU3 (fresh_nil hhc) o.hand) ?_
  rintro _ w4 ⟨rfl, hU4, hc4, hdc4, hO4, hhc4⟩
  have okc4 := ok.end_ o.hand (-1)
  refine st_call (Trim_spec okc4 hdc4 hO4 hU4 hhc4 0) ?_
  rintro _ w5 ⟨rfl, hU5, hc5, hdc5, hO5, hhc5⟩
  have okc5 := okc4.trim 0
  have hsF : ∀ p ∈ F, p ∈ h ++ (hw ++ F) := fun p hp => List.mem_append_right _ (List.mem_append_right _ hp)
  have hS1 : SU W (h ++ (hw ++ F)) w5.drew := ⟨hU5.trans (Upd.drew w5 []), (hO5.ext (Upd.drew w5 [])).sub (List.sublist_append_right _ _)⟩
  have hne : ∃ w', SU W (h ++ (hw ++ F)) w' := ⟨_, hS1⟩
  have qf : ∀ w', SU W (h ++ (hw ++ F)) w' → ∀ j u, (opV o)[j]? = some u → w'.cell? ((⟨g5, 0, none⟩ : Addr).add j) = some u := fun w' hs => hgF hs.2 hsF
  have q1 : ∀ w', SU W (h ++ (hw ++ F)) w' → w'.cell? ⟨g5, 1, none⟩ = some (.int .i64 o.hand) := fun w' hs => hF1 hs.2 hsF
  have q2 : ∀ w', SU W (h ++ (hw ++ F)) w' → w'.cell? ⟨g5, 2, none⟩ = some (.int .i64 o.at_) := fun w' hs => hF2 hs.2 hsF
  have q4 : ∀ w', SU W (h ++ (hw ++ F)) w' → w'.cell? ⟨g5, 4, none⟩ = some (.int .u8 o.fill.toNat) := fun w' hs => hF4 hs.2 hsF
  refine st_draw (SU W (h ++ (hw ++ F))) hS1 ?_
  simp (disch := first | assumption | omega) only [SX, SLX, add_mk, Nat.zero_add, sld_op hne qf]
  refine st_begin (K := fun S3 v3 w => _) (fun _ h => h) okc5 hdc5 (hO5.ext (Upd.drew w5 [])) hS1.1 (nil_fresh hhc5) ho hl0 ?_
  intro w6 hc6 _ hO6 hU6 _
  clear hdc4 hdc5 okc4 okc5 hO4 hO5 hO3 hdc
  have hO6' : Owns w6 (h ++ (hw ++ F)) := hO6.sub (List.sublist_append_right _ _)
  refine st_call (Read_spec hd ok.most (fun p hp => List.mem_append_left _ hp) hO6' hU6 0 size) ?_
  rintro _ w7 ⟨hU7, ⟨hn, _⟩ | ⟨_, vn, hn, rfl, hrn, hO7, hhn⟩⟩
  · unfold readOut at hn; omega
  rw [Int.toNat_zero, List.drop_zero, Int.toNat_natCast, List.take_of_length_le (by omega)] at hrn
  have c1 := hF1 hO7 (fun p hp => List.mem_append_right _ (hsF p hp))
  simp (disch := first | assumption | omega) only [PX, BX, LX, add_mk, Nat.zero_add]
  refine st_call (Flying_spec ok hd (fun p hp => List.mem_append_right _ (List.mem_append_left _ hp)) hO7 hU7 o.hand) ?_
  rintro _ w8 ⟨rfl, hU8, hO8⟩
  have rn : Rd w8 1 vn size (bytesV d.B) := hrn.rdIn fun p hp => hO8.2 p (List.mem_append_left _ hp)
  have rw' : Rd w8 1 vw size (bytesV d.B) := hrw.rdIn fun p hp => hO8.2 p (List.mem_append_right _ (List.mem_append_right _ (List.mem_append_left _ hp)))
  simp (disch := first | assumption | omega) only [flyV, PX, BX, LX, st_str rn, st_str rw']
  refine ⟨fun h => absurd rfl h, fun _ => ?_⟩
  refine ⟨fun _ => ⟨fun h => absurd rfl h, fun _ => ⟨fun h => absurd rfl h, fun _ => ?_⟩⟩, fun h => absurd trivial h⟩
  rw [beq_self_eq_true, bool_true, bool_var]
  have hS8 : SU W (hn ++ (h ++ (hw ++ F))) w8.drew := SU.drew hU8 hO8
  have hsF8 : ∀ p ∈ F, p ∈ hn ++ (h ++ (hw ++ F)) := fun p hp => List.mem_append_right _ (hsF p hp)
  have hne8 : ∃ w', SU W (hn ++ (h ++ (hw ++ F))) w' := ⟨_, hS8⟩
  have r1 : ∀ w', SU W (hn ++ (h ++ (hw ++ F))) w' → w'.cell? ⟨g5, 1, none⟩ = some (.int .i64 o.hand) := fun w' hs => hF1 hs.2 hsF8
  have r4 : ∀ w', SU W (hn ++ (h ++ (hw ++ F))) w' → w'.cell? ⟨g5, 4, none⟩ = some (.int .u8 o.fill.toNat) := fun w' hs => hF4 hs.2 hsF8
  have rf : ∀ w', SU W (hn ++ (h ++ (hw ++ F))) w' → ∀ j u, (opV o)[j]? = some u → w'.cell? ((⟨g5, 0, none⟩ : Addr).add j) = some u := fun w' hs => hgF hs.2 hsF8
  refine ⟨fun hfly => ?_, fun hfly => ?_⟩
  · refine st_draw (SU W (hn ++ (h ++ (hw ++ F)))) hS8 ?_
    simp (disch := first | assumption | omega) only [SX, SLX, add_mk, Nat.zero_add]
    refine st_call (filled_spec hS8.2 hS8.1 64 (by decide) 1) ?_
    rintro v9 w9 ⟨h9, hr9, hO9, hU9, hh9⟩
    refine st_same (show SU W (hn ++ (h ++ (hw ++ F))) w9 from ⟨hU9, hO9.sub (List.sublist_append_right _ _)⟩) ?_
    refine st_call (Start_spec (b := List.replicate 64 1) ok hd (hO9.perm (perm3 _ _ _ _)) hU9 (fresh_nil hh) (hr9.rdIn fun p hp => hO9.2 p (List.mem_append_left _ hp)) (by decide) o.hand 0 (by decide)) ?_
    rintro _ w10 ⟨rfl, hU10, h10, hd10, hO10, hh10⟩
    refine st_keepT (fun _ => True) trivial ?_
    have hneT : ∃ w' : World, (fun _ : World => True) w' := ⟨w10, trivial⟩
    simp (disch := first | assumption | omega) only [SX, BX]
    refine ⟨fun _ => ?_, fun hz => ?_⟩
    · refine st_call (lives_spec hU10) ?_
      rintro _ w6 ⟨rfl, hU6⟩
      exact st_keepT (fun _ => True) trivial ⟨rfl, hU6⟩
    · obtain ⟨s1, s2, s3, s4, s5, s6, s7, s8⟩ := start_ok (Decidable.not_not.1 hz)
      unfold flyD at hfly
      rw [if_pos s1, s7] at hfly
      cases hfly
  · refine st_draw (SU W (hn ++ (h ++ (hw ++ F)))) hS8 ?_
    simp (disch := first | assumption | omega) only [SX, SLX, add_mk, Nat.zero_add, sld_op hne8 rf]
    refine st_call (long_spec hS8.2 hS8.1 o) ?_
    rintro _ w9 ⟨rfl, hU9, hO9⟩
    refine st_same (show SU W (hn ++ (h ++ (hw ++ F))) w9 from ⟨hU9, hO9⟩) ?_
    obtain ⟨n, hn'⟩ : ∃ n : Nat, longO o = n := ⟨(longO o).toNat, by omega⟩
    have hb : beginD d o = startD d o.hand o.at_ (List.replicate n o.fill) := by unfold beginD; rw [hn', Int.toNat_natCast]
    rw [hn']
    refine st_call (filled_spec hO9 hU9 n (by omega) o.fill) ?_
    rintro v10 w10 ⟨h10, hr10, hO10, hU10, hh10⟩
    refine st_keepT (fun _ => True) trivial ?_
    have c1 := hF1 hO10 (fun p hp => List.mem_append_right _ (hsF8 p hp))
    have c2 := hF2 hO10 (fun p hp => List.mem_append_right _ (hsF8 p hp))
    simp (disch := first | assumption | omega) only [PX, BX, LX]
    refine st_call (Start_spec (b := List.replicate n o.fill) ok hd (hO10.perm (perm3 _ _ _ _)) hU10 (fresh_nil hh) (by rw [List.length_replicate]; exact hr10.rdIn fun p hp => hO10.2 p (List.mem_append_left _ hp)) (by rw [List.length_replicate]; omega) o.hand o.at_ ⟨ho.2.2.1.1, ho.2.2.1.2⟩) ?_
    rintro _ w11 ⟨rfl, hU11, h11, hd11, hO11, hh11⟩
    rw [← hb] at hd11 ⊢
    simp (disch := first | assumption | omega) only [PX, BX]
    refine ⟨fun _ => lives_end hU11, fun hz => ?_⟩
    have hz : (beginD d o).2 = 0 := Decidable.not_not.1 hz
    obtain ⟨s1, s2, s3, s4, s5, s6, s7, s8⟩ := start_ok hz
    rw [List.length_replicate, hn', Int.toNat_natCast] at s5
    rcases hr10.2 with ⟨_, hz, _⟩ | ⟨gb, cap, cs0, rfl, rfl, q1, q2, q3, q4⟩
    · omega
    rw [Nat.mul_one] at q3 q4
    have hgb : W.heap.size ≤ gb := hh10 (gb, _) (.head _)
    have hO11' : Owns w11 ((gb, .cells cs0 5 (0, 0)) :: (h11 ++ (hn ++ (hw ++ F)))) := hO11.perm (List.perm_middle)
    refine st_loop (fun us w' => ∃ (i : Nat) (cs : Array Value), i ≤ n ∧ us.getD 0 undef = .int .i64 (i : Nat) ∧ cs.size = cap ∧ (∀ j, i ≤ j → cs[j]? = cs0[j]?) ∧ Upd W w' [] ∧ Owns w' ((gb, .cells cs 5 (0, 0)) :: (h11 ++ (hn ++ (hw ++ F)))))
      (fun us _ => n - (match us.getD 0 undef with | .int _ m => m.toNat | _ => 0)) ⟨0, cs0, Nat.zero_le _, rfl, q3, fun _ _ => rfl, hU11, hO11'⟩ ?_
    rintro dv us w12 - ⟨i, cs, hi, ei, hcs, hsame, hU12, hO12⟩
    simp (disch := first | assumption | omega) only [ei, PX, BX]
    refine ⟨fun hlt => ?_, fun hge => ?_⟩
    · have hlt' : i < n := by omega
      have hb0 : cs0[i]? = some (.int .u8 o.fill.toNat) := by
        have h1 : (bytesV (List.replicate n o.fill))[i]? = some (.int .u8 o.fill.toNat) := by simp [bytesV, hlt']
        rw [← q4, List.getElem?_take, if_pos hlt'] at h1
        simpa using h1
      have ci : w12.cell? ⟨gb, i, none⟩ = some (.int .u8 o.fill.toNat) := by rw [cell_at (hO12.at_ 0 rfl), hsame i (Nat.le_refl _), hb0]
      simp (disch := first | assumption | omega) only [PX, BX, LX, add_mk, Nat.zero_add]
      refine st_storeB (off := i) sz5 rfl hU12 hO12 0 rfl (by omega) (.inr (Nat.zero_le _)) (.inr hgb) ?_
      intro w13 hU13 hO13
      rw [w64 (by omega) (by omega)]
      refine ⟨⟨i + 1, _, hlt', by simp, by rw [Array.size_setIfInBounds]; exact hcs, fun j hj => ?_, hU13, hO13⟩, ?_⟩
      · rw [Array.getElem?_setIfInBounds_ne (by omega)]; exact hsame j (by omega)
      · show n - ((i : Int) + 1).toNat < n - ((i : Int)).toNat
        rw [show ((i : Int) + 1).toNat = i + 1 by omega, Int.toNat_natCast]
        omega
    · exact clones_k4 (F := (gb, .cells cs 5 (0, 0)) :: (hn ++ (hw ++ F))) ho ok hU12 hz hd11 (hO12.perm List.perm_middle.symm) (nil_fresh hh11) (.tail _ (List.mem_append_right _ (List.mem_append_right _ hF))) hl0

theorem StableClones_spec {lv : Value} {l : List Op} {size : Int} {o : Op} (hl : RdS W opV 5 lv l) (hok : ∀ o ∈ l, Ok64 o) (ho : Ok64 o) :
    CallsR Try.prog 6 #[.int .i64 size, lv, .agg (opV o).toArray] W fun r w' => r = .bool true ∧ Upd W w' [] := by
  apply flotillalaw08_StableClones_sound
  unfold flotillalaw08_StableClones_x
  refine st_box (Upd.refl W []) (Owns.nil W) ?_
  intro g5 w3 hU3 hO3
  intro hg5
  let F : List (Nat × Obj) := [(g5, .cells (opV o).toArray 24 (0, 0))]
  have hO3' : Owns w3 F := hO3
  refine st_call (New_spec hU3 hO3' size) ?_
  rintro _ w4 ⟨hU4, ⟨hn, rfl, hO4⟩ | ⟨hsz, v0, h0, rfl, hd0, hO0, hh0⟩⟩
  · simp (disch := first | assumption | omega) only [PX, BX]
    exact ⟨fun _ => lives_end hU4, fun h => absurd (by decide) h⟩
  simp (disch := first | assumption | omega) only [PX, BX]
  refine ⟨fun h => absurd rfl h, fun _ => ⟨fun _ => lives_end hU4, fun h4096 => ?_⟩⟩
  rw [ld_op (o := o) (fun j u hj => by
    rw [add_mk, cell_at (hO0.2 _ (List.mem_append_right _ (.head _))), Nat.zero_add]; simpa using hj)]
  refine st_call (long_spec hO0 hU4 o) ?_
  rintro _ w5 ⟨rfl, hU0, hO0⟩
  simp (disch := first | assumption | omega) only [PX, BX]
  refine ⟨fun _ => lives_end hU0, fun hl0 => ?_⟩
  have hl0 : 0 ≤ longO o := by omega
  obtain ⟨n, rfl⟩ : ∃ n : Nat, size = n := ⟨size.toNat, by unfold sizeOk at hsz; omega⟩
  rw [Int.toNat_natCast] at hd0
  have ok0 : DvOk (newD n) := DvOk.new (by unfold sizeOk at hsz; omega) (by unfold sizeOk at hsz; omega)
  generalize hd0e : newD n = d0 at *
  have hlen0 : d0.B.length = n := by rw [← hd0e]; simp [newD]
  obtain ⟨A, c, rfl⟩ := hl.sl
  refine st_loop (fun us w' => ∃ (i : Nat) (h : List (Nat × Obj)), i ≤ l.length ∧ i ≤ 60 ∧ us.getD 0 undef = .int .i64 (i : Nat) ∧ Upd W w' [] ∧ DevH (playD d0 (l.take i)) v0 h ∧ Owns w' (h ++ F) ∧ ∀ p ∈ h, W.heap.size ≤ p.1)
    (fun us _ => 60 - (match us.getD 0 undef with | .int _ m => m.toNat | _ => 0)) ⟨0, h0, Nat.zero_le _, by omega, rfl, hU0, hd0, hO0, hh0⟩ ?_
  rintro dv us w1 - ⟨i, h, hi, hi60, ei, hU, hd, hO, hh⟩
  have ok := playD_ok ok0 (l.take i)
  simp (disch := first | assumption | omega) only [ei, PX, BX]
  refine ⟨fun hlt => ⟨fun hlt60 => ?_, fun hge => ?_⟩, fun hge => ?_⟩
  · have hlt' : i < l.length := by omega
    obtain ⟨b, c2, hb, fb⟩ := op_at hl hlt'
    injection hb with e1 _ e3
    subst e1 e3
    have f0 := fun w' hw => fb w' hw 0 _ rfl
    have f1 := fun w' hw => fb w' hw 1 _ rfl
    have f2 := fun w' hw => fb w' hw 2 _ rfl
    have f3 := fun w' hw => fb w' hw 3 _ rfl
    have f4 := fun w' hw => fb w' hw 4 _ rfl
    have fo := hok l[i] (List.getElem_mem _)
    rw [add_zero'] at f0
    have next : ∀ (w' : World) (h' : List (Nat × Obj)), DevH (play1 (playD d0 (l.take i)) l[i]) v0 h' → Owns w' (h' ++ F) → Upd W w' [] → (∀ p ∈ h', W.heap.size ≤ p.1) →
        flotillalaw08_StableClones_k6 (std Try.prog) us (fun us' w' => (∃ (i : Nat) (h : List (Nat × Obj)), i ≤ l.length ∧ i ≤ 60 ∧ us'.getD 0 undef = .int .i64 (i : Nat) ∧ Upd W w' [] ∧ DevH (playD d0 (l.take i)) v0 h ∧ Owns w' (h ++ F) ∧ ∀ p ∈ h, W.heap.size ≤ p.1) ∧
          60 - (match us'.getD 0 undef with | .int _ m => m.toNat | _ => 0) < 60 - ((i : Int)).toNat) w' fun r w' => r = .bool true ∧ Upd W w' [] := by
      intro w' h' hd' hO' hU' hh'
      unfold flotillalaw08_StableClones_k6
      simp (disch := first | assumption | omega) only [ei, PX, BX]
      rw [w64 (by omega) (by omega)]
      refine ⟨⟨i + 1, h', hlt', by omega, by simp, hU', by rw [playD_take _ _ hlt']; exact hd', hO', hh'⟩, ?_⟩
      show 60 - ((i : Int) + 1).toNat < 60 - ((i : Int)).toNat
      rw [show ((i : Int) + 1).toNat = i + 1 by omega, Int.toNat_natCast]
      omega
    rw [join_std]
    -- behind the first test
    have second : ∀ (w' : World) (h' : List (Nat × Obj)) (dv' : Nat → Value) (us' : List Value), DevH (if l[i].kind = 0 ∧ 0 ≤ longO l[i] then (beginD (playD d0 (l.take i)) l[i]).1 else playD d0 (l.take i)) v0 h' → Owns w' (h' ++ F) → Upd W w' [] → (∀ p ∈ h', W.heap.size ≤ p.1) →
        flotillalaw08_StableClones_j7 (std Try.prog) (.slice (some b) l.length c) v0 us (fun us' w' => (∃ (i : Nat) (h : List (Nat × Obj)), i ≤ l.length ∧ i ≤ 60 ∧ us'.getD 0 undef = .int .i64 (i : Nat) ∧ Upd W w' [] ∧ DevH (playD d0 (l.take i)) v0 h ∧ Owns w' (h ++ F) ∧ ∀ p ∈ h, W.heap.size ≤ p.1) ∧
          60 - (match us'.getD 0 undef with | .int _ m => m.toNat | _ => 0) < 60 - ((i : Int)).toNat) dv' us' w' fun r w' => r = .bool true ∧ Upd W w' [] := by
      intro w' h' dv' us' hd' hO' hU' hh'
      unfold flotillalaw08_StableClones_j7
      have g0 := f0 w' hU'
      have g1 := f1 w' hU'
      have ok1 : DvOk (if l[i].kind = 0 ∧ 0 ≤ longO l[i] then (beginD (playD d0 (l.take i)) l[i]).1 else playD d0 (l.take i)) := by
        split
        · exact ok.start _ _ _
        · exact ok
      simp (disch := first | assumption | omega) only [ei, PX, BX, LX]
      refine ⟨fun h1 => ?_, fun h1 => ?_⟩
      · refine st_call (Finish_spec ok1 hd' hO' hU' (fresh_nil hh') _) ?_
        rintro _ w2 ⟨rfl, hU2, h2, hd2, hO2, hh2⟩
        refine next w2 h2 ?_ hO2 hU2 (nil_fresh hh2)
        unfold play1; dsimp only; rw [if_pos h1]; exact hd2
      · refine next w' h' ?_ hO' hU' hh'
        unfold play1; dsimp only; rw [if_neg h1]; exact hd'
    have g0 := f0 w1 hU
    simp (disch := first | assumption | omega) only [ei, PX, BX, LX]
    refine ⟨fun hk0 => ?_, fun hk0 dv' => second w1 h dv' _ (by rw [if_neg (by rintro ⟨h1, _⟩; exact hk0 h1)]; exact hd) hO hU hh⟩
    rw [ld_op (o := l[i]) (fun j u hj => fb w1 hU j u hj)]
    refine st_call (long_spec hO hU l[i]) ?_
    rintro _ w2 ⟨rfl, hU2, hO2⟩
    simp (disch := first | assumption | omega) only [ei, PX, BX, LX]
    refine ⟨fun hl0 => ?_, fun hl0 dv' => second w2 h dv' _ (by rw [if_neg (by rintro ⟨_, h1⟩; exact hl0 h1)]; exact hd) hO2 hU2 hh⟩
    have hS2 : SU W F w2.drew := ⟨hU2.trans (Upd.drew w2 []), (hO2.ext (Upd.drew w2 [])).sub (List.sublist_append_right _ _)⟩
    have hne : ∃ w', SU W F w' := ⟨_, hS2⟩
    have q1 : ∀ w', SU W F w' → w'.cell? ((b.add (i * 5)).add 1) = some (.int .i64 l[i].hand) := fun w' h => f1 w' h.1
    have q2 : ∀ w', SU W F w' → w'.cell? ((b.add (i * 5)).add 2) = some (.int .i64 l[i].at_) := fun w' h => f2 w' h.1
    have q4 : ∀ w', SU W F w' → w'.cell? ((b.add (i * 5)).add 4) = some (.int .u8 l[i].fill.toNat) := fun w' h => f4 w' h.1
    have qa : ∀ w', SU W F w' → ∀ j u, (opV l[i])[j]? = some u → w'.cell? ((b.add (i * 5)).add j) = some u := fun w' h j u hj => fb w' h.1 j u hj
    refine st_draw (SU W F) hS2 ?_
    simp (disch := first | assumption | omega) only [ei, SX, SLX, sld_op hne qa]
    refine st_begin (K := fun S3 v3 w => ∀ dv', _) (fun _ h => h) ok hd (hO2.ext (Upd.drew w2 [])) hS2.1 hh fo hl0 ?_
    intro w3 h3 hd3 hO3 hU3 hh3 dv'
    exact second w3 h3 dv' _ (by rw [if_pos ⟨hk0, hl0⟩]; exact hd3) hO3 hU3 hh3
  · exact clones_rest ho ok (by rw [playD_len ok0]; exact hlen0) rfl hU hd hO hh (.head _) hl0
  · exact clones_rest ho ok (by rw [playD_len ok0]; exact hlen0) rfl hU hd hO hh (.head _) hl0
end Go.Proofs.Ytdkahgknoohbpaa
