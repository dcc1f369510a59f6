/- A record is read off: the pieces of the walk. -/
import Derived.Test.YtconmaojfkmlnaaRecK
import Derived.Test.YtconmaojfkmlnaaRecP
namespace Go.Proofs.Ytconmaojfkmlnaa.Rec
open Go Go.Proofs.Ytconmaojfkmlnaa Go.Proofs.Ytconmaojfkmlnaa.Enc Xf Go.RowKit
set_option linter.unusedVariables false
set_option linter.unusedSimpArgs false
set_option maxRecDepth 100000

def isValB : Sl → Bool | .val _ => true | _ => false
theorem toS {l : List Sl} {n : Nat} (hl : l.length = n) (h : l.all isValB = true) : l = (List.range n).map fun i => .val ((l.getD i (.val undef)).v) := by
  apply List.ext_getElem?
  intro i
  by_cases hi : i < n
  · rw [List.getElem?_map, List.getElem?_range hi, List.getElem?_eq_getElem (by omega)]
    simp only [Option.map_some, Option.some.injEq]
    rw [List.getD_eq_getElem?_getD, List.getElem?_eq_getElem (by omega)]
    have := List.all_eq_true.1 h _ (List.getElem_mem (by omega : i < l.length))
    simp only [Option.getD_some]
    cases hx : l[i] with
    | val v => rfl
    | _ => rw [hx] at this; cases this
  · rw [List.getElem?_eq_none (by omega), List.getElem?_eq_none (by simp; omega)]
/-- the slots of a reading's frame -/
def Fr3 (g gA gB : Nat) (s : Nat → Value) : Prop := s 0 = .pointer (some ⟨g, 0, none⟩) ∧ s 2 = .pointer (some ⟨gA, 0, none⟩) ∧ s 3 = .pointer (some ⟨gB, 0, none⟩)
def onF (g gA gB : Nat) (R : World → Prop) (fr : List Sl) (w : World) : Prop := (∃ s, fr = ((List.range 91).map fun i => .val (s i)) ∧ Fr3 g gA gB s) ∧ R w
theorem onF_mk {g gA gB : Nat} {R : World → Prop} {fr : List Sl} {w : World} (hl : fr.length = 91) (h : fr.all isValB = true) (h0 : (fr.getD 0 (.val undef)).v = .pointer (some ⟨g, 0, none⟩)) (h2 : (fr.getD 2 (.val undef)).v = .pointer (some ⟨gA, 0, none⟩)) (h3 : (fr.getD 3 (.val undef)).v = .pointer (some ⟨gB, 0, none⟩)) (hR : R w) : onF g gA gB R fr w :=
  ⟨⟨_, toS hl h, h0, h2, h3⟩, hR⟩

theorem m1_walk {W w : World} {g gA gB : Nat} {hb : List (Nat × Obj)} {r : Re} {s : Rs} {sl : Nat → Value} (hf : Fr3 g gA gB sl) (hR : RS W g gA gB hb r s w) : read_m1_x (std Try.prog) sl w (onF g gA gB (RS W g gA gB hb (gChg r s).1 (gChg r s).2)) := by
  obtain ⟨f0, f2, f3⟩ := hf
  obtain ⟨vt, vd, ht, hd, h1, h2, h3, hA, hB, hI⟩ := hR
  unfold read_m1_x
  obtain ⟨c0, c1, c2, c3, c4, c5, c6, c7, c8, c9, c10, c11⟩ := At.of (RI.blk hI (p := (gB, reO r vt vd)) (by simp))
  simp (disch := first | assumption | omega) only [f0, f2, f3, PX, BX, LX, add_mk, Nat.reduceAdd]
  refine st_call (changes_spec _ _) ?_
  rintro _ w1 ⟨rfl, rfl⟩
  simp only [BX]
  refine ⟨fun hc => ?_, fun hc => onF_mk rfl rfl rfl rfl rfl (by unfold gChg; rw [if_neg hc]; exact ⟨vt, vd, ht, hd, h1, h2, h3, hA, hB, hI⟩)⟩
  refine st_call (gTwo hI) ?_
  rintro _ w2 ⟨rfl, hk, hI⟩
  simp (disch := first | assumption | omega) only [f0, f2, f3, PX, BX, add_mk, Nat.reduceAdd, w64]
  refine st_fld (r' := { r with page := ((tk s 2).1 : Nat) }) hI hB sz3 rfl (by omega) rfl ?_
  intro w3 hI
  refine st_call (gByte hI) ?_
  rintro _ w4 ⟨rfl, hk2, hI⟩
  simp (disch := first | assumption | omega) only [f0, f2, f3, PX, BX, add_mk, Nat.reduceAdd, w64]
  refine st_call (gText 16 hI) ?_
  rintro _ w5 ⟨rfl, hI⟩
  refine st_call (gText 32 hI) ?_
  rintro _ w6 ⟨rfl, hI⟩
  refine st_call (gText 32 hI) ?_
  rintro _ w7 ⟨rfl, hI⟩
  rw [step_run (build_ac4 _ _ _ _ _)]
  obtain ⟨T, hO, hU, hcl⟩ := RI.open_ hI
  refine st_storeN (vs := acV _ _ _ _) (by rw [sz29]; rfl) hU hO 0 rfl (by simp [reV, acV]) (by intro u hu; simp [acV] at hu; rcases hu with rfl | rfl | rfl | rfl <;> rfl) (.inr hB) ?_
  intro w8 hU8 hO8
  have e : (gChg r s) = ({ r with page := ((tk s 2).1 : Nat), ak := ((tk (tk s 2).2 1).1 : Nat), key := (tt (tk (tk s 2).2 1).2 16).1, old := (tt (tt (tk (tk s 2).2 1).2 16).2 32).1, new := (tt (tt (tt (tk (tk s 2).2 1).2 16).2 32).2 32).1 }, (tt (tt (tt (tk (tk s 2).2 1).2 16).2 32).2 32).2) := by
    unfold gChg; rw [if_pos hc]
  rw [e]
  have hI := hcl w8 ((gB, reO { r with page := ((tk s 2).1 : Nat), ak := ((tk (tk s 2).2 1).1 : Nat), key := (tt (tk (tk s 2).2 1).2 16).1, old := (tt (tt (tk (tk s 2).2 1).2 16).2 32).1, new := (tt (tt (tt (tk (tk s 2).2 1).2 16).2 32).2 32).1 } vt vd) :: (gA, reO re0 nilS nilS) :: (ht ++ hd)) hU8 hO8
  refine onF_mk rfl rfl rfl rfl rfl ?_
  exact ⟨vt, vd, ht, hd, h1, h2, h3, hA, hB, hI⟩
theorem m2_walk {W w : World} {g gA gB : Nat} {hb : List (Nat × Obj)} {r : Re} {s : Rs} {sl : Nat → Value} (hf : Fr3 g gA gB sl) (hR : RS W g gA gB hb r s w) : read_m2_x (std Try.prog) sl w (onF g gA gB (RS W g gA gB hb (gUndo r s).1 (gUndo r s).2)) := by
  obtain ⟨f0, f2, f3⟩ := hf
  obtain ⟨vt, vd, ht, hd, h1, h2, h3, hA, hB, hI⟩ := hR
  unfold read_m2_x
  obtain ⟨c0, c1, c2, c3, c4, c5, c6, c7, c8, c9, c10, c11⟩ := At.of (RI.blk hI (p := (gB, reO r vt vd)) (by simp))
  simp (disch := first | assumption | omega) only [f0, f2, f3, PX, BX, LX, add_mk, Nat.reduceAdd]
  refine ⟨fun hc => ?_, fun hc => onF_mk rfl rfl rfl rfl rfl (by unfold gUndo; rw [if_neg hc]; exact ⟨vt, vd, ht, hd, h1, h2, h3, hA, hB, hI⟩)⟩
  refine st_call (gEight hI) ?_
  rintro _ w2 ⟨rfl, hI⟩
  refine st_fld (r' := { r with undo := (tk s 8).1 }) hI hB sz26 rfl (by omega) rfl ?_
  intro w3 hI
  refine onF_mk rfl rfl rfl rfl rfl ?_
  unfold gUndo
  rw [if_pos hc]
  exact ⟨vt, vd, ht, hd, h1, h2, h3, hA, hB, hI⟩
end Go.Proofs.Ytconmaojfkmlnaa.Rec
