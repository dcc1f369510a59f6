/-
  No cell of these rows narrows 'for every input' (looked for: loops, veiled, ifaces, maps, wideKeys, modest, calm, conditions, laid).
  DERIVED. THE GIVEN ROWS OF THIS SEAT. 6 by the template 'for every input the law returns true; each argument reads behind the call as it read before'; 0 by the template 'total and deterministic' (their statements: YtilfkccahlkcaaaTotals.lean).
  GIVEN WITH THE SEED: the statements are not yours to turn. If you find one false, say at which input.
  Laid BY PROGRAM, IN A SANDBOX (cutbox-rows.mjs): the forced cells as the released guide's own fill.sh prints them over the translation 45dd23a0b250385b… (all of the seat's roots in one cut). By AI agents, Wed Nov 11 2026. No macro, syntax, notation, axiom, sorry.
-/
import Derived.Test.YtilfkccahlkcaaaChecked
import GoSem.Claim
import GoSem.ClaimJoined
import GoSem.ClaimMapViews
import Derived.JoinedTies
import Derived.KernelRfl
namespace Go.Proofs.Ytilfkccahlkcaaa
/- THE CELL 'sum', in the pinned program and in every row, IS THE sha256 OF THE DUMP (.gsa) THAT YtilfkccahlkcaaaProg.lean LOADS. Nothing in Lean hashes anything: it is a label: what it is worth is what the hold of that sum in a sandbox is worth. -/
noncomputable def Try.pinned : Pinned := { name := "ytilfkccahlkcaaa", sum := "45dd23a0b250385bb72c600b589c7aa58d04daf4cbc1e2ccc05306acccd088c4", checked := Try.checked }
namespace Rows
def none {H : Type} : Left H := { results := [], args := [] }

/-- 'flotillalaw20.OwnOne': WHATEVER THE INPUT: true; the input reads as it did. -/
def ownOneSpec : ChangeSpec := { name := "ownOne", fn := fun _ => fun
  | [d1, d2, d3] => { results := [.lit (.bool true)], args := [d1, d2, d3] }
  | _ => none }
def ownOneRow : OpenClaim := { program := "ytilfkccahlkcaaa", sum := "45dd23a0b250385bb72c600b589c7aa58d04daf4cbc1e2ccc05306acccd088c4", func := "flotilla/flotillalaw20.OwnOne", spec := "ownOne", unfollowed := true, recurses := true, apart := false }
def OwnOneSaid : Prop := ownOneRow.holds Try.pinned (OpenSpec.ofChange ownOneSpec)

/-- ITS FALSE NEIGHBOUR: 'it returns false'. Refute it at one input. -/
def ownOneWrong : ChangeSpec := { name := "ownOne", fn := fun _ => fun
  | [d1, d2, d3] => { results := [.lit (.bool false)], args := [d1, d2, d3] }
  | _ => none }
def OwnOneWrongFalsely : Prop := ownOneRow.holds Try.pinned (OpenSpec.ofChange ownOneWrong)

/-- 'flotillalaw20.OwnTurns': WHATEVER THE INPUT: true; the input reads as it did. -/
def ownTurnsSpec : ChangeSpec := { name := "ownTurns", fn := fun _ => fun
  | [d1, d2, d3] => { results := [.lit (.bool true)], args := [d1, d2, d3] }
  | _ => none }
def ownTurnsRow : OpenClaim := { program := "ytilfkccahlkcaaa", sum := "45dd23a0b250385bb72c600b589c7aa58d04daf4cbc1e2ccc05306acccd088c4", func := "flotilla/flotillalaw20.OwnTurns", spec := "ownTurns", unfollowed := true, recurses := true, apart := false }
def OwnTurnsSaid : Prop := ownTurnsRow.holds Try.pinned (OpenSpec.ofChange ownTurnsSpec)

/-- ITS FALSE NEIGHBOUR: 'it returns false'. Refute it at one input. -/
def ownTurnsWrong : ChangeSpec := { name := "ownTurns", fn := fun _ => fun
  | [d1, d2, d3] => { results := [.lit (.bool false)], args := [d1, d2, d3] }
  | _ => none }
def OwnTurnsWrongFalsely : Prop := ownTurnsRow.holds Try.pinned (OpenSpec.ofChange ownTurnsWrong)

/-- 'flotillalaw20.OwnEnds': WHATEVER THE INPUT: true; the input reads as it did. -/
def ownEndsSpec : ChangeSpec := { name := "ownEnds", fn := fun _ => fun
  | [d1, d2] => { results := [.lit (.bool true)], args := [d1, d2] }
  | _ => none }
def ownEndsRow : OpenClaim := { program := "ytilfkccahlkcaaa", sum := "45dd23a0b250385bb72c600b589c7aa58d04daf4cbc1e2ccc05306acccd088c4", func := "flotilla/flotillalaw20.OwnEnds", spec := "ownEnds", unfollowed := true, recurses := true, apart := false }
def OwnEndsSaid : Prop := ownEndsRow.holds Try.pinned (OpenSpec.ofChange ownEndsSpec)

/-- ITS FALSE NEIGHBOUR: 'it returns false'. Refute it at one input. -/
def ownEndsWrong : ChangeSpec := { name := "ownEnds", fn := fun _ => fun
  | [d1, d2] => { results := [.lit (.bool false)], args := [d1, d2] }
  | _ => none }
def OwnEndsWrongFalsely : Prop := ownEndsRow.holds Try.pinned (OpenSpec.ofChange ownEndsWrong)

/-- 'flotillalaw20.OwnGone': WHATEVER THE INPUT: true; the input reads as it did. -/
def ownGoneSpec : ChangeSpec := { name := "ownGone", fn := fun _ => fun
  | [d1, d2, d3] => { results := [.lit (.bool true)], args := [d1, d2, d3] }
  | _ => none }
def ownGoneRow : OpenClaim := { program := "ytilfkccahlkcaaa", sum := "45dd23a0b250385bb72c600b589c7aa58d04daf4cbc1e2ccc05306acccd088c4", func := "flotilla/flotillalaw20.OwnGone", spec := "ownGone", unfollowed := true, recurses := true, apart := false }
def OwnGoneSaid : Prop := ownGoneRow.holds Try.pinned (OpenSpec.ofChange ownGoneSpec)

/-- ITS FALSE NEIGHBOUR: 'it returns false'. Refute it at one input. -/
def ownGoneWrong : ChangeSpec := { name := "ownGone", fn := fun _ => fun
  | [d1, d2, d3] => { results := [.lit (.bool false)], args := [d1, d2, d3] }
  | _ => none }
def OwnGoneWrongFalsely : Prop := ownGoneRow.holds Try.pinned (OpenSpec.ofChange ownGoneWrong)

/-- 'flotillalaw20.OwnPlays': WHATEVER THE INPUT: true; the input reads as it did. -/
def ownPlaysSpec : ChangeSpec := { name := "ownPlays", fn := fun _ => fun
  | [d1, d2, d3] => { results := [.lit (.bool true)], args := [d1, d2, d3] }
  | _ => none }
def ownPlaysRow : OpenClaim := { program := "ytilfkccahlkcaaa", sum := "45dd23a0b250385bb72c600b589c7aa58d04daf4cbc1e2ccc05306acccd088c4", func := "flotilla/flotillalaw20.OwnPlays", spec := "ownPlays", unfollowed := true, recurses := true, apart := false }
def OwnPlaysSaid : Prop := ownPlaysRow.holds Try.pinned (OpenSpec.ofChange ownPlaysSpec)

/-- ITS FALSE NEIGHBOUR: 'it returns false'. Refute it at one input. -/
def ownPlaysWrong : ChangeSpec := { name := "ownPlays", fn := fun _ => fun
  | [d1, d2, d3] => { results := [.lit (.bool false)], args := [d1, d2, d3] }
  | _ => none }
def OwnPlaysWrongFalsely : Prop := ownPlaysRow.holds Try.pinned (OpenSpec.ofChange ownPlaysWrong)

/-- 'flotillalaw20.OwnNils': WHATEVER THE INPUT: true; the input reads as it did. -/
def ownNilsSpec : ChangeSpec := { name := "ownNils", fn := fun _ => fun
  | [d1, d2] => { results := [.lit (.bool true)], args := [d1, d2] }
  | _ => none }
def ownNilsRow : OpenClaim := { program := "ytilfkccahlkcaaa", sum := "45dd23a0b250385bb72c600b589c7aa58d04daf4cbc1e2ccc05306acccd088c4", func := "flotilla/flotillalaw20.OwnNils", spec := "ownNils", unfollowed := true, recurses := true, apart := false }
def OwnNilsSaid : Prop := ownNilsRow.holds Try.pinned (OpenSpec.ofChange ownNilsSpec)

/-- ITS FALSE NEIGHBOUR: 'it returns false'. Refute it at one input. -/
def ownNilsWrong : ChangeSpec := { name := "ownNils", fn := fun _ => fun
  | [d1, d2] => { results := [.lit (.bool false)], args := [d1, d2] }
  | _ => none }
def OwnNilsWrongFalsely : Prop := ownNilsRow.holds Try.pinned (OpenSpec.ofChange ownNilsWrong)

/- THE SECOND FORM. 'bulk': how many values and letters a reading holds, each counted each time it is reached (what is shared counts as often as it is met; a slice's spare places count too). A statement '..UptoSaid' is the law's where the arguments, and the package variables that the reading takes, are together of bulk at most 1048576: NARROWER than '..Said'. Prove '..Said' where nothing that the law and all that it calls make is longer than what came in: it says more and counts as full. Else prove '..UptoSaid'. A law counts once. -/
mutual
def uptoBulk {H : Type} : DataW H → Nat
  | .lit (.string bytes) => bytes.length + 1
  | .lit _ => 1
  | .nil => 1
  | .ptr d => uptoBulk d + 1
  | .slice elems spare => uptoBulkAll elems + uptoBulkAll spare + 1
  | .agg parts => uptoBulkAll parts + 1
  | .iface _ d => uptoBulk d + 1
  | .map entries => uptoBulkEntries entries + 1
  | .held _ => 1
def uptoBulkAll {H : Type} : List (DataW H) → Nat
  | [] => 0
  | d :: r => uptoBulk d + uptoBulkAll r
def uptoBulkEntries {H : Type} : List (Lit × DataW H) → Nat
  | [] => 0
  | x :: r => uptoBulkEntry x + uptoBulkEntries r
def uptoBulkEntry {H : Type} : Lit × DataW H → Nat
  | (.string bytes, d) => bytes.length + uptoBulk d + 1
  | (_, d) => uptoBulk d + 1
 end
def uptoSmall : (H : Type) → List (DataW H) → Bool := fun _ ds => decide (uptoBulkAll ds ≤ 1048576)
def OpenSpec.upto (s : _root_.Go.ChangeSpec) : _root_.Go.OpenSpec := { _root_.Go.OpenSpec.ofChange s with cond := some uptoSmall }

/-- 'flotillalaw20.OwnOne', WHERE WHAT IT READS IS OF BULK AT MOST 1048576: true; the input reads as it did. -/
def ownOneUptoRow : OpenClaim := { program := "ytilfkccahlkcaaa", sum := "45dd23a0b250385bb72c600b589c7aa58d04daf4cbc1e2ccc05306acccd088c4", func := "flotilla/flotillalaw20.OwnOne", spec := "ownOne", unfollowed := true, recurses := true, apart := false, narrowed := true }
def OwnOneUptoSaid : Prop := ownOneUptoRow.holds Try.pinned (OpenSpec.upto ownOneSpec)

/-- 'flotillalaw20.OwnTurns', WHERE WHAT IT READS IS OF BULK AT MOST 1048576: true; the input reads as it did. -/
def ownTurnsUptoRow : OpenClaim := { program := "ytilfkccahlkcaaa", sum := "45dd23a0b250385bb72c600b589c7aa58d04daf4cbc1e2ccc05306acccd088c4", func := "flotilla/flotillalaw20.OwnTurns", spec := "ownTurns", unfollowed := true, recurses := true, apart := false, narrowed := true }
def OwnTurnsUptoSaid : Prop := ownTurnsUptoRow.holds Try.pinned (OpenSpec.upto ownTurnsSpec)

/-- 'flotillalaw20.OwnEnds', WHERE WHAT IT READS IS OF BULK AT MOST 1048576: true; the input reads as it did. -/
def ownEndsUptoRow : OpenClaim := { program := "ytilfkccahlkcaaa", sum := "45dd23a0b250385bb72c600b589c7aa58d04daf4cbc1e2ccc05306acccd088c4", func := "flotilla/flotillalaw20.OwnEnds", spec := "ownEnds", unfollowed := true, recurses := true, apart := false, narrowed := true }
def OwnEndsUptoSaid : Prop := ownEndsUptoRow.holds Try.pinned (OpenSpec.upto ownEndsSpec)

/-- 'flotillalaw20.OwnGone', WHERE WHAT IT READS IS OF BULK AT MOST 1048576: true; the input reads as it did. -/
def ownGoneUptoRow : OpenClaim := { program := "ytilfkccahlkcaaa", sum := "45dd23a0b250385bb72c600b589c7aa58d04daf4cbc1e2ccc05306acccd088c4", func := "flotilla/flotillalaw20.OwnGone", spec := "ownGone", unfollowed := true, recurses := true, apart := false, narrowed := true }
def OwnGoneUptoSaid : Prop := ownGoneUptoRow.holds Try.pinned (OpenSpec.upto ownGoneSpec)

/-- 'flotillalaw20.OwnPlays', WHERE WHAT IT READS IS OF BULK AT MOST 1048576: true; the input reads as it did. -/
def ownPlaysUptoRow : OpenClaim := { program := "ytilfkccahlkcaaa", sum := "45dd23a0b250385bb72c600b589c7aa58d04daf4cbc1e2ccc05306acccd088c4", func := "flotilla/flotillalaw20.OwnPlays", spec := "ownPlays", unfollowed := true, recurses := true, apart := false, narrowed := true }
def OwnPlaysUptoSaid : Prop := ownPlaysUptoRow.holds Try.pinned (OpenSpec.upto ownPlaysSpec)

/-- 'flotillalaw20.OwnNils', WHERE WHAT IT READS IS OF BULK AT MOST 1048576: true; the input reads as it did. -/
def ownNilsUptoRow : OpenClaim := { program := "ytilfkccahlkcaaa", sum := "45dd23a0b250385bb72c600b589c7aa58d04daf4cbc1e2ccc05306acccd088c4", func := "flotilla/flotillalaw20.OwnNils", spec := "ownNils", unfollowed := true, recurses := true, apart := false, narrowed := true }
def OwnNilsUptoSaid : Prop := ownNilsUptoRow.holds Try.pinned (OpenSpec.upto ownNilsSpec)

end Rows
end Go.Proofs.Ytilfkccahlkcaaa
