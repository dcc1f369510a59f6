/- Rings of frames, in plain terms, and how they lie in memory. -/
import Derived.Test.YtnghnolpohahpaaD
import Derived.Test.YtnghnolpohahpaaF
import Derived.Test.YtnghnolpohahpaaQ
namespace Go.Proofs.Ytnghnolpohahpaa
open Go Xf Go.RowKit
set_option linter.unusedVariables false
set_option linter.unusedSimpArgs false
set_option maxRecDepth 100000

theorem w64 {a : Int} (h0 : -9223372036854775808 ≤ a) (h1 : a < 9223372036854775808) : IntKind.wrap .i64 a = a := by
  rw [IntKind.wrap_i64]; omega

structure Fr where
  page : Int
  used : Bool
  pins : Int
deriving DecidableEq

def frV (f : Fr) : List Value := [.int .i64 f.page, .bool f.used, .int .i64 f.pins]
def framesV (fs : List Fr) : List Value := fs.flatMap frV
theorem framesV_len (fs : List Fr) : (framesV fs).length = fs.length * 3 := by
  induction fs with
  | nil => rfl
  | cons f fs ih => simp [framesV, frV] at ih ⊢; omega
theorem framesV_at {fs : List Fr} {i : Nat} (hi : i < fs.length) (k : Nat) (hk : k < 3) : (framesV fs)[i * 3 + k]? = (frV fs[i])[k]? := by
  induction fs generalizing i with
  | nil => simp at hi
  | cons f fs ih =>
    cases i with
    | zero =>
      show ((frV f ++ framesV fs))[0 * 3 + k]? = _
      rw [List.getElem?_append_left (by simp [frV]; omega), Nat.zero_mul, Nat.zero_add]
      rfl
    | succ i =>
      show ((frV f ++ framesV fs))[(i + 1) * 3 + k]? = _
      rw [List.getElem?_append_right (by simp [frV]; omega), show (i + 1) * 3 + k - (frV f).length = i * 3 + k by simp [frV]; omega, ih (by simpa using hi)]
      rfl
theorem frV_one (f : Fr) : ∀ u ∈ frV f, u.oneCell' = true := by
  intro u hu; simp [frV] at hu; rcases hu with rfl | rfl | rfl <;> rfl
theorem framesV_one (fs : List Fr) : ∀ u ∈ framesV fs, u.oneCell' = true := by
  intro u hu; obtain ⟨f, _, hf⟩ := List.mem_flatMap.1 hu; exact frV_one f u hf
theorem framesV_append (a b : List Fr) : framesV a ++ framesV b = framesV (a ++ b) := by simp [framesV]
theorem framesV_set (fs : List Fr) (i : Nat) (hi : i < fs.length) (f : Fr) : framesV (fs.set i f) = (framesV fs).take (i * 3) ++ frV f ++ (framesV fs).drop (i * 3 + 3) := by
  induction fs generalizing i with
  | nil => simp at hi
  | cons g fs ih =>
    cases i with
    | zero => simp [framesV, frV]
    | succ i =>
      show frV g ++ framesV (fs.set i f) = _
      rw [ih i (by simpa using hi)]
      show _ = List.take ((i + 1) * 3) (frV g ++ framesV fs) ++ frV f ++ List.drop ((i + 1) * 3 + 3) (frV g ++ framesV fs)
      have hl : (frV g).length = 3 := rfl
      have t1 : List.take ((i + 1) * 3) (frV g ++ framesV fs) = frV g ++ List.take (i * 3) (framesV fs) := by
        rw [List.take_append, List.take_of_length_le (show (frV g).length ≤ (i + 1) * 3 by rw [hl]; omega), hl, show (i + 1) * 3 - 3 = i * 3 by omega]
      have t2 : List.drop ((i + 1) * 3 + 3) (frV g ++ framesV fs) = List.drop (i * 3 + 3) (framesV fs) := by
        rw [List.drop_append, List.drop_of_length_le (show (frV g).length ≤ (i + 1) * 3 + 3 by rw [hl]; omega), hl, show (i + 1) * 3 + 3 - 3 = i * 3 + 3 by omega, List.nil_append]
      rw [t1, t2]
      simp

/-- a ring as it lies in memory -/
def RingAt (w : World) (v : Value) (fs : List Fr) (hand : Int) : Prop :=
  ∃ A c, v = .agg #[.slice A fs.length c, .int .i64 hand] ∧ fs.length ≤ maxLen ∧ Rd w 3 (.slice A fs.length c) fs.length (framesV fs)
theorem RingAt.mono {w w' : World} {v : Value} {fs : List Fr} {hand : Int} (h : RingAt w v fs hand) (hU : Upd w w' []) : RingAt w' v fs hand := by
  obtain ⟨A, c, h1, h2, h3⟩ := h
  exact ⟨A, c, h1, h2, h3.mono hU⟩

def okF (f : Fr) : Prop := -1 ≤ f.page ∧ f.page < 16 ∧ 0 ≤ f.pins ∧ f.pins ≤ 1048576 ∧ (f.page = -1 → f.used = false ∧ f.pins = 0)
def May (fs : List Fr) (hand : Int) : Prop :=
  1 ≤ fs.length ∧ fs.length ≤ 16 ∧ 0 ≤ hand ∧ hand < fs.length ∧ ∀ (i : Nat) (hi : i < fs.length), okF fs[i] ∧ ∀ (k : Nat) (hk : k < i), 0 ≤ fs[i].page → fs[k].page ≠ fs[i].page
noncomputable instance (fs : List Fr) (hand : Int) : Decidable (May fs hand) := Classical.propDecidable _

/-- the frame at a place of a slice that reads frames -/
theorem frame_run {w w' : World} {A : Option Addr} {n c : Nat} {fs : List Fr} (hr : Rd w 3 (.slice A n c) n (framesV fs)) (hU : Upd w w' []) {i : Nat} (hi : i < fs.length) :
    ∃ a, A = some a ∧ w'.cell? (a.add (((i : Nat) : Int).toNat * 3)) = some (.int .i64 fs[i].page) ∧ w'.cell? (a.add (((i : Nat) : Int).toNat * 3 + 1)) = some (.bool fs[i].used) ∧ w'.cell? (a.add (((i : Nat) : Int).toNat * 3 + 2)) = some (.int .i64 fs[i].pins) := by
  obtain ⟨A', c', he, _, _, hc⟩ := hr
  injection he with h1 h2 h3
  subst h1
  rw [show ((i : Nat) : Int).toNat = i by omega]
  have key : ∀ k u, k < 3 → (frV fs[i])[k]? = some u → ∃ a, A = some a ∧ w'.cell? (a.add (i * 3 + k)) = some u := by
    intro k u hk hu
    obtain ⟨a, ha, hx⟩ := hc (i * 3 + k) u (by rw [framesV_at hi k hk]; exact hu)
    exact ⟨a, ha, by rw [hU.cell (World.block_lt_of_cell? w _ hx) (by simp)]; exact hx⟩
  obtain ⟨a, ha, h0⟩ := key 0 _ (by omega) rfl
  obtain ⟨a1, ha1, h1⟩ := key 1 _ (by omega) rfl
  obtain ⟨a2, ha2, h2⟩ := key 2 _ (by omega) rfl
  subst ha
  injection ha1 with ha1
  injection ha2 with ha2
  subst ha1 ha2
  exact ⟨_, rfl, h0, h1, h2⟩
theorem ld_frame {a : Addr} {f : Fr} {w : World} {m : Nat} {K : Value → World → Prop} (h0 : w.cell? (a.add m) = some (.int .i64 f.page)) (h1 : w.cell? (a.add (m + 1)) = some (.bool f.used)) (h2 : w.cell? (a.add (m + 2)) = some (.int .i64 f.pins))
    (hk : K (.agg (frV f).toArray) w) : (std Try.prog).step (sLoad 31 (.pointer (some (a.add m)))) w K := by
  refine st_loadN ag31 (by rw [sz31]; rfl) (fun j v hj => ?_) hk
  rw [add_add']
  match j, hj with
  | 0, hj => simp [frV] at hj; subst hj; exact h0
  | 1, hj => simp [frV] at hj; subst hj; exact h1
  | 2, hj => simp [frV] at hj; subst hj; exact h2

end Go.Proofs.Ytnghnolpohahpaa
