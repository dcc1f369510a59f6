/- A record is read off: the walk. -/
import Derived.Test.YtconmaojfkmlnaaRecI
import Derived.Test.YtconmaojfkmlnaaRecJ
import Derived.Test.YtconmaojfkmlnaaD2
namespace Go.Proofs.Ytconmaojfkmlnaa.Rec
open Go Go.Proofs.Ytconmaojfkmlnaa Go.Proofs.Ytconmaojfkmlnaa.Enc Xf Go.RowKit
set_option linter.unusedVariables false
set_option linter.unusedSimpArgs false
set_option maxRecDepth 100000

section
variable {W w : World} {F : List (Nat × Obj)} {g : Nat} {hb : List (Nat × Obj)} {s : Rs}
theorem gByte (h : RI W F g hb s.1 s.2 w) : CallsR Try.prog 54 #[.pointer (some ⟨g, 0, none⟩)] w fun u w' => u = .int .u8 ((tk s 1).1 : Nat) ∧ (tk s 1).1 < 256 ∧ RI W F g hb (tk s 1).2.1 (tk s 1).2.2 w' :=
  CallsR.mono (rByte_spec h) fun v w' ⟨h1, h2⟩ => ⟨h2, by have := tk_lt s 1; omega, h1⟩
theorem gTwo (h : RI W F g hb s.1 s.2 w) : CallsR Try.prog 32 #[.pointer (some ⟨g, 0, none⟩)] w fun u w' => u = .int .u16 ((tk s 2).1 : Nat) ∧ (tk s 2).1 < 65536 ∧ RI W F g hb (tk s 2).2.1 (tk s 2).2.2 w' :=
  CallsR.mono (rTwo_spec h) fun v w' ⟨h1, h2⟩ => ⟨h2, by have := tk_lt s 2; omega, h1⟩
theorem gFour (h : RI W F g hb s.1 s.2 w) : CallsR Try.prog 56 #[.pointer (some ⟨g, 0, none⟩)] w fun u w' => u = .int .u32 ((tk s 4).1 : Nat) ∧ (tk s 4).1 < 4294967296 ∧ RI W F g hb (tk s 4).2.1 (tk s 4).2.2 w' :=
  CallsR.mono (rFour_spec h) fun v w' ⟨h1, h2⟩ => ⟨h2, by have := tk_lt s 4; omega, h1⟩
theorem gEight (h : RI W F g hb s.1 s.2 w) : CallsR Try.prog 55 #[.pointer (some ⟨g, 0, none⟩)] w fun u w' => u = .int .u64 ((tk s 8).1 : Nat) ∧ RI W F g hb (tk s 8).2.1 (tk s 8).2.2 w' :=
  CallsR.mono (rEight_spec h) fun v w' ⟨h1, h2⟩ => ⟨h2, h1⟩
theorem gText (m : Int) (h : RI W F g hb s.1 s.2 w) : CallsR Try.prog 58 #[.pointer (some ⟨g, 0, none⟩), .int .i64 m] w fun u w' => u = .string ⟨(tt s m).1.toArray⟩ ∧ RI W F g hb (tt s m).2.1 (tt s m).2.2 w' :=
  CallsR.mono (rText_spec m h) fun v w' ⟨h1, h2⟩ => ⟨h2, h1⟩
end

theorem RI.open_ {W w : World} {F : List (Nat × Obj)} {g e : Nat} {hb : List (Nat × Obj)} {l : List UInt8} (h : RI W F g hb l e w) : ∃ T, Owns w (F ++ T) ∧ Upd W w [] ∧ ∀ w' F', Upd W w' [] → Owns w' (F' ++ T) → RI W F' g hb l e w' := by
  obtain ⟨v, h1, h2, h3, h4⟩ := h
  refine ⟨(g, .cells #[v, .int .i64 (e : Nat)] 99 (0, 0)) :: hb, ?_, h3, fun w' F' hU hO => ⟨v, h1, ?_, hU, h4⟩⟩
  · exact h2.perm (List.perm_append_comm (l₁ := (g, _) :: hb) (l₂ := F))
  · exact hO.perm (List.perm_append_comm (l₁ := F') (l₂ := (g, _) :: hb))
theorem RI.blk {W w : World} {F : List (Nat × Obj)} {g e : Nat} {hb : List (Nat × Obj)} {l : List UInt8} (h : RI W F g hb l e w) {p : Nat × Obj} (hp : p ∈ F) : w.heap[p.1]? = some p.2 := (RI.kept h).2 p hp

/-- a field of the record is set -/
theorem st_fld {W w : World} {F : List (Nat × Obj)} {g gB e off : Nat} {hb : List (Nat × Obj)} {l : List UInt8} {r r' : Re} {vt vd vt' vd' v : Value} {t : TypeId} {K : Value → World → Prop} (hR : RI W ((gB, reO r vt vd) :: F) g hb l e w) (hg : W.heap.size ≤ gB)
    (hn : (Try.prog.info? t).map (·.size) = some 1) (hv : oneB v = true) (hoff : off < 12) (hset : (reV r vt vd).toArray.setIfInBounds off v = (reV r' vt' vd').toArray) (hk : ∀ w', RI W ((gB, reO r' vt' vd') :: F) g hb l e w' → K undef w') :
    (std Try.prog).step (sStore t (.pointer (some ⟨gB, off, none⟩)) v) w K := by
  obtain ⟨T, hO, hU, hc⟩ := RI.open_ hR
  refine st_storeB hn hv hU hO 0 rfl (by simpa [reV] using hoff) (.inr (Nat.zero_le _)) (.inr hg) ?_
  intro w' hU' hO'
  rw [hset] at hO'
  exact hk w' (hc w' _ hU' hO')
theorem row_tx (t : Tx) (w : World) : (sBuildSlice 30 1 [(0, .agg (txV t).toArray)]).run Try.prog w = .ok (.value (.slice (some ⟨w.heap.size, 0, none⟩) 1 1)) (w.alloc (.cells (txV t).toArray 51)) := by kernel_rfl
theorem row_di (t : Di) (w : World) : (sBuildSlice 31 1 [(0, .agg (diV t).toArray)]).run Try.prog w = .ok (.value (.slice (some ⟨w.heap.size, 0, none⟩) 1 1)) (w.alloc (.cells (diV t).toArray 53)) := by kernel_rfl
theorem build_tx (a b : Int) (c : Nat) (w : World) : (sBuild 51 [(0, .int .i64 a), (1, .int .i64 b), (2, .int .u64 (c : Nat))]).run Try.prog w = .ok (.value (.agg (txV ⟨a, b, c⟩).toArray)) w := by kernel_rfl
theorem build_di (a : Int) (c : Nat) (w : World) : (sBuild 53 [(0, .int .i64 a), (1, .int .u64 (c : Nat))]).run Try.prog w = .ok (.value (.agg (diV ⟨a, c⟩).toArray)) w := by kernel_rfl
theorem build_ac4 (k : Int) (a b c : List UInt8) (w : World) : (sBuild 29 [(0, .int .i64 k), (1, .string ⟨a.toArray⟩), (2, .string ⟨b.toArray⟩), (3, .string ⟨c.toArray⟩)]).run Try.prog w = .ok (.value (.agg (acV k a b c).toArray)) w := by kernel_rfl
abbrev nilS : Value := .slice none 0 0
theorem build_head (k t : Int) (l p : Nat) (w : World) : (sBuild 33 [(0, .int .i64 k), (1, .int .u64 (l : Nat)), (2, .int .i64 t), (3, .int .u64 (p : Nat))]).run Try.prog w = .ok (.value (.agg (reV { re0 with kind := k, lsn := l, txn := t, prev := p } nilS nilS).toArray)) w := by kernel_rfl
theorem reV_one (r : Re) {vt vd : Value} (ht : vt.oneCell' = true) (hd : vd.oneCell' = true) : ∀ u ∈ reV r vt vd, u.oneCell' = true := by
  intro u hu
  simp only [reV, List.mem_cons, List.mem_nil_iff, or_false] at hu
  rcases hu with rfl | rfl | rfl | rfl | rfl | rfl | rfl | rfl | rfl | rfl | rfl | rfl <;> first | rfl | assumption
theorem ze_re : (Try.prog.info? 33).bind (·.zero) = some (.agg (reV re0 nilS nilS).toArray) := ze33
/-- a whole record into a variable of its own -/
theorem st_re {w W : World} {h : List (Nat × Obj)} {K : Value → World → Prop} {ks : List Nat} (hU : Upd W w ks) (hO : Owns w h) (i : Nat) {g : Nat} {r0 r : Re} {vt0 vd0 vt vd : Value} (hi : h[i]? = some (g, reO r0 vt0 vd0)) (ht : vt.oneCell' = true) (hd : vd.oneCell' = true) (hg : g ∈ ks ∨ W.heap.size ≤ g)
    (hk : ∀ w', Upd W w' ks → Owns w' (h.set i (g, reO r vt vd)) → K undef w') : (std Try.prog).step (sStore 33 (.pointer (some ⟨g, 0, none⟩)) (.agg (reV r vt vd).toArray)) w K := by
  refine st_storeN (vs := reV r vt vd) (by rw [sz33]; rfl) hU hO i hi (by simp [reV]) (reV_one r ht hd) hg ?_
  exact fun w' hU' hO' => hk w' hU' hO'

/-- a record that is being read -/
def RS (W : World) (g gA gB : Nat) (hb : List (Nat × Obj)) (r : Re) (s : Rs) (w : World) : Prop :=
  ∃ vt vd ht hd, RowH 51 3 vt r.ts.length (r.ts.flatMap txV) ht ∧ RowH 53 2 vd r.ds.length (r.ds.flatMap diV) hd ∧ (∀ p ∈ ht ++ hd, W.heap.size ≤ p.1) ∧ W.heap.size ≤ gA ∧ W.heap.size ≤ gB ∧
    RI W ((gB, reO r vt vd) :: (gA, reO re0 nilS nilS) :: (ht ++ hd)) g hb s.1 s.2 w
theorem RowH.one {e : TypeId} {sz n : Nat} {v : Value} {xs : List Value} {h : List (Nat × Obj)} (hr : RowH e sz v n xs h) : v.oneCell' = true ∧ oneB v = true := by
  obtain ⟨_, ⟨rfl, _⟩ | ⟨_, _, _, rfl, _⟩⟩ := hr <;> exact ⟨rfl, rfl⟩

theorem perm1 {α : Type} (a b : α) (h k T : List α) : List.Perm ((a :: b :: (h ++ k)) ++ T) (h ++ (a :: b :: (k ++ T))) := by
  have : (a :: b :: (h ++ k)) ++ T = [a, b] ++ (h ++ (k ++ T)) := by simp
  rw [this]
  exact List.perm_append_comm_assoc [a, b] h (k ++ T)
theorem perm2 {α : Type} (a b : α) (h k T : List α) : List.Perm ((a :: b :: (h ++ k)) ++ T) (k ++ (a :: b :: (h ++ T))) := by
  have : (a :: b :: (h ++ k)) ++ T = ([a, b] ++ h) ++ (k ++ T) := by simp
  rw [this]
  exact (List.perm_append_comm_assoc ([a, b] ++ h) k T).trans (by simp)
end Go.Proofs.Ytconmaojfkmlnaa.Rec
