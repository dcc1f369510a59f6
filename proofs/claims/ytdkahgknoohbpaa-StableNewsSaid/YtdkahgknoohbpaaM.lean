/- Devices: what they hold, and how they lie in memory. -/
import Derived.Test.YtdkahgknoohbpaaD
import Derived.Test.YtdkahgknoohbpaaF
import Derived.Test.YtdkahgknoohbpaaV
namespace Go.Proofs.Ytdkahgknoohbpaa
open Go Xf Go.RowKit
set_option linter.unusedVariables false
set_option linter.unusedSimpArgs false
set_option maxRecDepth 100000

theorem w64 {a : Int} (h0 : -9223372036854775808 ≤ a) (h1 : a < 9223372036854775808) : IntKind.wrap .i64 a = a := by
  rw [IntKind.wrap_i64]; omega

abbrev Wr := Option (Nat × List UInt8)
/-- a device: its bytes, and what each hand has under way -/
structure Dv where
  B : List UInt8
  up : List Wr
structure DvOk (d : Dv) : Prop where
  m64 : d.B.length % 64 = 0
  most : d.B.length ≤ 65536
  eight : d.up.length = 8
  fits : ∀ (i : Nat) (a : Nat) (b : List UInt8), d.up[i]? = some (some (a, b)) → a % 64 = 0 ∧ b.length % 64 = 0 ∧ 0 < b.length ∧ a + b.length ≤ d.B.length
def newD (n : Nat) : Dv := ⟨List.replicate n 0, List.replicate 8 none⟩
def hands (hand : Int) : Prop := 0 ≤ hand ∧ hand < 8
instance (hand : Int) : Decidable (hands hand) := by unfold hands; infer_instance
def argD (hand at_ : Int) (b : List UInt8) : Prop := ¬ hands hand ∨ at_.tmod 64 ≠ 0 ∨ b.length % 64 ≠ 0 ∨ b.length = 0
instance (hand at_ : Int) (b : List UInt8) : Decidable (argD hand at_ b) := by unfold argD; infer_instance
def startD (d : Dv) (hand at_ : Int) (b : List UInt8) : Dv × Int :=
  if argD hand at_ b then (d, 1)
  else if at_ < 0 ∨ (d.B.length : Int) < at_ + b.length then (d, 2)
  else if d.up.getD hand.toNat none = none then (⟨d.B, d.up.set hand.toNat (some (at_.toNat, b))⟩, 0) else (d, 10)
/-- a write's bytes, the first k of them, on a device -/
def putB (B : List UInt8) (a : Nat) (b : List UInt8) (k : Nat) : List UInt8 := B.take a ++ b.take k ++ B.drop (a + k)
def cutL (n : Nat) (most : Int) : Nat := if most < 0 then n else min n (64 * most.toNat)
def endD (d : Dv) (hand most : Int) : Dv × Int :=
  if hands hand then
    match d.up.getD hand.toNat none with
    | some (a, b) => (⟨putB d.B a b (cutL b.length most), d.up.set hand.toNat none⟩, 0)
    | none => (d, 8)
  else (d, 1)
def up64 (n : Nat) : Nat := (n + 63) / 64 * 64
def trimD (d : Dv) (at_ : Int) : Dv × Int :=
  if at_ < 0 ∨ (d.B.length : Int) < at_ then (d, 2) else (⟨d.B.take (up64 at_.toNat) ++ List.replicate (d.B.length - up64 at_.toNat) 0, d.up⟩, 0)
def readOut (d : Dv) (at_ n : Int) : Prop := at_ < 0 ∨ n < 0 ∨ (d.B.length : Int) < at_ + n
instance (d : Dv) (at_ n : Int) : Decidable (readOut d at_ n) := by unfold readOut; infer_instance
def flyD (d : Dv) (hand : Int) : Int × Int × Bool :=
  if hands hand then
    match d.up.getD hand.toNat none with
    | some (a, b) => (a, b.length, true)
    | none => (0, 0, false)
  else (0, 0, false)

theorem putB_len {B : List UInt8} {a : Nat} {b : List UInt8} {k : Nat} (h : a + b.length ≤ B.length) (hk : k ≤ b.length) : (putB B a b k).length = B.length := by
  simp only [putB, List.length_append, List.length_take, List.length_drop]; omega
theorem cutL_le (n : Nat) (m : Int) : cutL n m ≤ n := by unfold cutL; split <;> omega
theorem DvOk.new {n : Nat} (h : n % 64 = 0) (h2 : n ≤ 65536) : DvOk (newD n) := by
  refine ⟨by simp [newD, h], by simp [newD, h2], rfl, fun i a b hi => ?_⟩
  simp only [newD, List.getElem?_replicate] at hi
  split at hi <;> cases hi
theorem getD_some {α : Type} {l : List (Option α)} {i : Nat} {x : α} (h : l.getD i none = some x) : l[i]? = some (some x) := by
  rw [List.getD_eq_getElem?_getD] at h
  cases hl : l[i]? with
  | none => rw [hl] at h; cases h
  | some y => rw [hl] at h; simp at h; rw [h]
theorem DvOk.start {d : Dv} (h : DvOk d) (hand at_ : Int) (b : List UInt8) : DvOk (startD d hand at_ b).1 := by
  unfold startD
  split
  · exact h
  · rename_i h1
    split
    · exact h
    · rename_i h2
      split
      · refine ⟨h.m64, h.most, by simp [h.eight], fun i a c hi => ?_⟩
        simp only [argD, not_or, not_and, ne_eq, Decidable.not_not] at h1
        by_cases he : hand.toNat = i
        · subst he
          simp only [List.getElem?_set] at hi
          simp at hi
          obtain ⟨_, rfl, rfl⟩ := hi
          obtain ⟨h3, h4, h5, h6⟩ := h1
          obtain ⟨k, rfl⟩ : ∃ k : Nat, at_ = k := ⟨at_.toNat, by omega⟩
          have h4' : k % 64 = 0 := by have : Int.tmod (k : Int) (64 : Nat) = ((k % 64 : Nat) : Int) := tmod_nat k 64; rw [show ((64 : Nat) : Int) = 64 from rfl, h4] at this; omega
          show Int.toNat (k : Int) % 64 = 0 ∧ _ ∧ _ ∧ Int.toNat (k : Int) + _ ≤ d.B.length
          rw [Int.toNat_natCast]
          exact ⟨h4', h5, by omega, by omega⟩
        · rw [List.getElem?_set_ne he] at hi
          exact h.fits i a c hi
      · exact h
theorem DvOk.end_ {d : Dv} (h : DvOk d) (hand most : Int) : DvOk (endD d hand most).1 := by
  unfold endD
  split
  · split
    · rename_i a b he
      obtain ⟨f1, f2, f3, f4⟩ := h.fits _ a b (getD_some he)
      have hl := putB_len (k := cutL b.length most) f4 (cutL_le _ _)
      refine ⟨by rw [hl]; exact h.m64, by rw [hl]; exact h.most, by simp [h.eight], fun i a' c hi => ?_⟩
      rw [hl]
      by_cases hj : hand.toNat = i
      · subst hj
        rw [List.getElem?_set] at hi
        simp at hi
      · rw [List.getElem?_set_ne hj] at hi
        exact h.fits i a' c hi
    · exact h
  · exact h
theorem trim_len {d : Dv} (h : DvOk d) {a : Nat} (ha : a ≤ d.B.length) : up64 a ≤ d.B.length := by
  have := h.m64
  unfold up64; omega
theorem DvOk.trim {d : Dv} (h : DvOk d) (at_ : Int) : DvOk (trimD d at_).1 := by
  unfold trimD
  split
  · exact h
  · rename_i hn
    have hle := trim_len h (a := at_.toNat) (by omega)
    have hl : (d.B.take (up64 at_.toNat) ++ List.replicate (d.B.length - up64 at_.toNat) (0 : UInt8)).length = d.B.length := by
      simp only [List.length_append, List.length_take, List.length_replicate]; omega
    exact ⟨by rw [hl]; exact h.m64, by rw [hl]; exact h.most, h.eight, fun i a c hi => by rw [hl]; exact h.fits i a c hi⟩

/-! in memory -/
/-- what a hand has under way, in the blocks of h -/
def WrIn (h : List (Nat × Obj)) : Wr → Value → Prop
  | none, v => v = .pointer none
  | some (a, b), v => ∃ gw gb cap cs, v = .pointer (some ⟨gw, 0, none⟩) ∧ (gw, .cells #[.int .i64 (a : Nat), .slice (some ⟨gb, 0, none⟩) b.length cap] 62 (0, 0)) ∈ h ∧ (gb, .cells cs 5 (0, 0)) ∈ h ∧ b.length ≤ cap ∧ cs.toList.take b.length = bytesV b
theorem WrIn.mono {h h' : List (Nat × Obj)} {u : Wr} {v : Value} (hw : WrIn h u v) (hs : ∀ p ∈ h, p ∈ h') : WrIn h' u v := by
  cases u with
  | none => exact hw
  | some x =>
    obtain ⟨gw, gb, cap, cs, h1, h2, h3, h4, h5⟩ := hw
    exact ⟨gw, gb, cap, cs, h1, hs _ h2, hs _ h3, h4, h5⟩
theorem WrIn.one {h : List (Nat × Obj)} {u : Wr} {v : Value} (hw : WrIn h u v) : oneB v = true := by
  cases u with
  | none => rw [show v = _ from hw]; rfl
  | some x => obtain ⟨gw, gb, cap, cs, h1, _⟩ := hw; rw [h1]; rfl
/-- the cells of a device's own block -/
def UpIn (h : List (Nat × Obj)) (up : List Wr) (vs : List Value) : Prop := vs.length = 8 ∧ ∀ (i : Nat) (u : Wr), up[i]? = some u → ∃ x, vs[i]? = some x ∧ WrIn h u x
theorem UpIn.mono {h h' : List (Nat × Obj)} {up : List Wr} {vs : List Value} (hu : UpIn h up vs) (hs : ∀ p ∈ h, p ∈ h') : UpIn h' up vs :=
  ⟨hu.1, fun i u hi => by obtain ⟨x, h1, h2⟩ := hu.2 i u hi; exact ⟨x, h1, h2.mono hs⟩⟩
theorem UpIn.set {h : List (Nat × Obj)} {up : List Wr} {vs : List Value} (hu : UpIn h up vs) {i : Nat} (hi : i < 8) {u : Wr} {x : Value} (hx : WrIn h u x) : UpIn h (up.set i u) (vs.set i x) := by
  refine ⟨by rw [List.length_set]; exact hu.1, fun j y hj => ?_⟩
  by_cases he : i = j
  · subst he
    rw [List.getElem?_set] at hj
    simp at hj
    obtain ⟨_, rfl⟩ := hj
    exact ⟨x, by rw [List.getElem?_set]; simp [hu.1, hi], hx⟩
  · rw [List.getElem?_set_ne he] at hj ⊢
    exact hu.2 j y hj
def DevH (d : Dv) (v : Value) (h : List (Nat × Obj)) : Prop :=
  ∃ (g : Nat) (vb : Value) (vs : List Value) (hb hu : List (Nat × Obj)), v = .pointer (some ⟨g, 0, none⟩) ∧ h = (g, .cells (vb :: vs).toArray 60 (0, 0)) :: (hb ++ hu) ∧ RowH 5 1 vb d.B.length (bytesV d.B) hb ∧ UpIn hu d.up vs
theorem RowH.sl {e : TypeId} {sz : Nat} {v : Value} {n : Nat} {xs : List Value} {h : List (Nat × Obj)} (hr : RowH e sz v n xs h) : ∃ A c, v = .slice A n c ∧ n ≤ c := by
  rcases hr.2 with ⟨h1, h2, _⟩ | ⟨g, cap, cs, h1, _, h3, _⟩
  · subst h2; exact ⟨_, _, h1, Nat.le_refl _⟩
  · exact ⟨_, _, h1, h3⟩
theorem RowH.one {e : TypeId} {sz : Nat} {v : Value} {n : Nat} {xs : List Value} {h : List (Nat × Obj)} (hr : RowH e sz v n xs h) : oneB v = true := by
  obtain ⟨A, c, rfl, _⟩ := hr.sl; rfl
theorem RowH.rdIn {w : World} {e : TypeId} {sz : Nat} {v : Value} {n : Nat} {xs : List Value} {h : List (Nat × Obj)} (hr : RowH e sz v n xs h) (hO : ∀ p ∈ h, w.heap[p.1]? = some p.2) : Rd w sz v n xs := by
  rcases hr.2 with ⟨h1, h2, _⟩ | ⟨g, cap, cs, h1, rfl, h3, h4, h5, h6⟩
  · subst h2
    have : xs = [] := List.eq_nil_of_length_eq_zero (by simpa using hr.1)
    subst this
    rw [h1]
    exact Rd.nil_ _ _
  · refine ⟨some ⟨g, 0, none⟩, cap, h1, h3, hr.1, fun j u hu => ⟨_, rfl, ?_⟩⟩
    rw [add_mk, Nat.zero_add, cell_at (hO (g, _) (.head _))]
    rw [← h6, List.getElem?_take] at hu
    split at hu
    · simpa using hu
    · cases hu

/-- what stands in a device's own block -/
theorem DevH.cells {d : Dv} {v : Value} {h G : List (Nat × Obj)} {w : World} (hd : DevH d v h) (hG : ∀ p ∈ h, p ∈ G) (hO : Owns w G) :
    ∃ (g : Nat) (A : Option Addr) (c : Nat), v = .pointer (some ⟨g, 0, none⟩) ∧ w.cell? ⟨g, 0, none⟩ = some (.slice A d.B.length c) ∧ d.B.length ≤ c ∧ Rd w 1 (.slice A d.B.length c) d.B.length (bytesV d.B) ∧
      ∀ (i : Nat) (u : Wr), d.up[i]? = some u → ∃ x, w.cell? ⟨g, 1 + i, none⟩ = some x ∧ WrIn G u x := by
  obtain ⟨g, vb, vs, hb, hu, rfl, rfl, hr, hup⟩ := hd
  obtain ⟨A, c, rfl, hc⟩ := hr.sl
  have hg := hO.2 _ (hG _ (.head _))
  refine ⟨g, A, c, rfl, by rw [cell_at hg]; rfl, hc, hr.rdIn fun p hp => hO.2 p (hG p (.tail _ (List.mem_append_left _ hp))), fun i u hi => ?_⟩
  obtain ⟨x, h1, h2⟩ := hup.2 i u hi
  refine ⟨x, ?_, h2.mono fun p hp => hG p (.tail _ (List.mem_append_right _ hp))⟩
  rw [cell_at hg]
  simp [Nat.add_comm 1 i, h1]

theorem empty_row (w : World) : (sBuildSlice 34 0 []).run Try.prog w = .ok (.value (.slice (some ⟨w.heap.size, 0, none⟩) 0 0)) (w.alloc (.cells #[] 5)) := by kernel_rfl

theorem run_slice2 {P : Program} {w : World} {t e : TypeId} {sz n c lo hi : Nat} {A : Option Addr} (ht : P.underlying t = some (.slice e)) (hs : (P.info? e).map (·.size) = some sz) (h1 : lo ≤ hi) (h2 : hi ≤ c) :
    (sSlice t (.slice A n c) (some (.int .i64 (lo : Nat))) (some (.int .i64 (hi : Nat))) none).run P w = .ok (.value (.slice (if c = lo then A else A.map (·.add (lo * sz))) (hi - lo) (c - lo))) w := by
  unfold sSlice Instr.sliceAt
  rw [run_sV, Sem.run_bind, run_underlying' ht]
  simp only [Result.andThen_ok, Instr.slice, Sem.run_bind, run_underlying' ht, Instr.sliceBounds, Sem.run_pure]
  rw [sliceBound_run (show (0 : Int) ≤ (hi : Nat) by omega) (show ((hi : Nat) : Int) ≤ (c : Nat) by omega)]
  simp only [Result.andThen_ok, Int.toNat_natCast]
  rw [sliceBound_run (show (0 : Int) ≤ (lo : Nat) by omega) (show ((lo : Nat) : Int) ≤ (hi : Nat) by omega)]
  simp only [Result.andThen_ok, Int.toNat_natCast, run_sizeOf hs, Sem.run_pure]
theorem Rd.short {w : World} {sz n m c : Nat} {A : Option Addr} {xs : List Value} (h : Rd w sz (.slice A n c) n xs) (hm : m ≤ n) : Rd w sz (.slice A m c) m (xs.take (m * sz)) := by
  obtain ⟨A', c', he, hc, hl, hr⟩ := h
  injection he with e1 e2 e3
  subst e1 e3
  refine ⟨A, c, rfl, by omega, ?_, fun j u hu => ?_⟩
  · rw [List.length_take, hl]
    exact Nat.min_eq_left (Nat.mul_le_mul_right _ hm)
  · rw [List.getElem?_take] at hu
    split at hu
    · exact hr j u hu
    · cases hu
theorem Rd.sub {w : World} {n c lo hi : Nat} {A : Option Addr} {xs : List Value} (h : Rd w 1 (.slice A n c) n xs) (h1 : lo ≤ hi) (h2 : hi ≤ n) :
    Rd w 1 (.slice (if c = lo then A else A.map (·.add (lo * 1))) (hi - lo) (c - lo)) (hi - lo) ((xs.drop lo).take (hi - lo)) := by
  have := (h.drop (i := lo) (by omega)).short (m := hi - lo) (by omega)
  simpa only [Nat.mul_one] using this

section
variable {w W : World} {ks : List Nat} {K : Value → World → Prop}
/-- append([]byte{}, xs..): a copy in new memory -/
theorem st_fill {w1 : World} {c : List Bool} {u : Value} {m g : Nat} {ys : List Value} {F : List (Nat × Obj)} (hO1 : Owns w1 ((g, .cells #[] 5) :: F)) (hU1 : Upd w w1 []) (hg : w.heap.size ≤ g) (hrd : Rd w1 1 u m ys) (h1 : ∀ y ∈ ys, y.oneCell' = true) (h63 : m ≤ 140737488355328)
    (hk : ∀ v' w' h', RowH 5 1 v' m ys h' → Owns w' (h' ++ F) → Upd w w' [] → (∀ p ∈ h', w.heap.size ≤ p.1) → K v' w') :
    (std Try.prog).step (sBuiltin .append #[34, 34] 34 c [.slice (some ⟨g, 0, none⟩) 0 0, u]) w1 K := by
  obtain ⟨i, hi, hz, hs, hb⟩ := inf5
  refine st_append (F := F) (h := [(g, .cells #[] 5 (0, 0))]) u34 hi hz hs hb rfl (by omega) (row_nil _ g) hO1 hU1 (fun p hp => ?_) hrd h1 (by unfold maxLen; omega) (by omega) ?_
  · simp at hp; subst hp; exact .inr hg
  · intro v' w' h' hr hO' hU' hh'
    rw [Nat.zero_add, List.nil_append] at hr
    refine hk v' w' h' hr hO' hU' fun p hp => ?_
    rcases hh' p hp with h | h
    · cases h
    · exact h
end
end Go.Proofs.Ytdkahgknoohbpaa
