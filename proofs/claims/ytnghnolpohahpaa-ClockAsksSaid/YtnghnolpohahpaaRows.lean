/-
  No cell of these rows narrows 'for every input' (looked for: loops, veiled, ifaces, maps, wideKeys, modest, calm, conditions, laid).
  DERIVED. THE GIVEN ROWS OF THIS SEAT. 6 by the template 'for every input the law returns true; each argument reads behind the call as it read before'; 0 by the template 'total and deterministic' (their statements: YtnghnolpohahpaaTotals.lean).
  GIVEN WITH THE SEED: the statements are not yours to turn. If you find one false, say at which input.
  Laid BY PROGRAM, IN A SANDBOX (cutbox-rows.mjs): the forced cells as the released guide's own fill.sh prints them over the translation b56df03ea50e2015… (all of the seat's roots in one cut). By AI agents, Wed Nov 11 2026. No macro, syntax, notation, axiom, sorry.
-/
import Derived.Test.YtnghnolpohahpaaChecked
import GoSem.Claim
import GoSem.ClaimJoined
import GoSem.ClaimMapViews
import Derived.JoinedTies
import Derived.KernelRfl
namespace Go.Proofs.Ytnghnolpohahpaa
/- THE CELL 'sum', in the pinned program and in every row, IS THE sha256 OF THE DUMP (.gsa) THAT YtnghnolpohahpaaProg.lean LOADS. Nothing in Lean hashes anything: it is a label: what it is worth is what the hold of that sum in a sandbox is worth. -/
noncomputable def Try.pinned : Pinned := { name := "ytnghnolpohahpaa", sum := "b56df03ea50e201524c0e1387717cb1c212fd8c0e60d333a70f5cd55772e74da", checked := Try.checked }
namespace Rows
def none {H : Type} : Left H := { results := [], args := [] }

/-- 'flotillalaw14.ClockNews': WHATEVER THE INPUT: true; the input reads as it did. -/
def clockNewsSpec : ChangeSpec := { name := "clockNews", fn := fun _ => fun
  | [d] => { results := [.lit (.bool true)], args := [d] }
  | _ => none }
def clockNewsRow : OpenClaim := { program := "ytnghnolpohahpaa", sum := "b56df03ea50e201524c0e1387717cb1c212fd8c0e60d333a70f5cd55772e74da", func := "flotilla/flotillalaw14.ClockNews", spec := "clockNews", apart := false }
def ClockNewsSaid : Prop := clockNewsRow.holds Try.pinned (OpenSpec.ofChange clockNewsSpec)

/-- ITS FALSE NEIGHBOUR: 'it returns false'. Refute it at one input. -/
def clockNewsWrong : ChangeSpec := { name := "clockNews", fn := fun _ => fun
  | [d] => { results := [.lit (.bool false)], args := [d] }
  | _ => none }
def ClockNewsWrongFalsely : Prop := clockNewsRow.holds Try.pinned (OpenSpec.ofChange clockNewsWrong)

/-- 'flotillalaw14.ClockAsks': WHATEVER THE INPUT: true; the input reads as it did. -/
def clockAsksSpec : ChangeSpec := { name := "clockAsks", fn := fun _ => fun
  | [d1, d2] => { results := [.lit (.bool true)], args := [d1, d2] }
  | _ => none }
def clockAsksRow : OpenClaim := { program := "ytnghnolpohahpaa", sum := "b56df03ea50e201524c0e1387717cb1c212fd8c0e60d333a70f5cd55772e74da", func := "flotilla/flotillalaw14.ClockAsks", spec := "clockAsks", apart := false }
def ClockAsksSaid : Prop := clockAsksRow.holds Try.pinned (OpenSpec.ofChange clockAsksSpec)

/-- ITS FALSE NEIGHBOUR: 'it returns false'. Refute it at one input. -/
def clockAsksWrong : ChangeSpec := { name := "clockAsks", fn := fun _ => fun
  | [d1, d2] => { results := [.lit (.bool false)], args := [d1, d2] }
  | _ => none }
def ClockAsksWrongFalsely : Prop := clockAsksRow.holds Try.pinned (OpenSpec.ofChange clockAsksWrong)

/-- 'flotillalaw14.ClockPlays': WHATEVER THE INPUT: true; the input reads as it did. -/
def clockPlaysSpec : ChangeSpec := { name := "clockPlays", fn := fun _ => fun
  | [d1, d2] => { results := [.lit (.bool true)], args := [d1, d2] }
  | _ => none }
def clockPlaysRow : OpenClaim := { program := "ytnghnolpohahpaa", sum := "b56df03ea50e201524c0e1387717cb1c212fd8c0e60d333a70f5cd55772e74da", func := "flotilla/flotillalaw14.ClockPlays", spec := "clockPlays", apart := false }
def ClockPlaysSaid : Prop := clockPlaysRow.holds Try.pinned (OpenSpec.ofChange clockPlaysSpec)

/-- ITS FALSE NEIGHBOUR: 'it returns false'. Refute it at one input. -/
def clockPlaysWrong : ChangeSpec := { name := "clockPlays", fn := fun _ => fun
  | [d1, d2] => { results := [.lit (.bool false)], args := [d1, d2] }
  | _ => none }
def ClockPlaysWrongFalsely : Prop := clockPlaysRow.holds Try.pinned (OpenSpec.ofChange clockPlaysWrong)

/-- 'flotillalaw14.ClockSpares': WHATEVER THE INPUT: true; the input reads as it did. -/
def clockSparesSpec : ChangeSpec := { name := "clockSpares", fn := fun _ => fun
  | [d1, d2] => { results := [.lit (.bool true)], args := [d1, d2] }
  | _ => none }
def clockSparesRow : OpenClaim := { program := "ytnghnolpohahpaa", sum := "b56df03ea50e201524c0e1387717cb1c212fd8c0e60d333a70f5cd55772e74da", func := "flotilla/flotillalaw14.ClockSpares", spec := "clockSpares", apart := false }
def ClockSparesSaid : Prop := clockSparesRow.holds Try.pinned (OpenSpec.ofChange clockSparesSpec)

/-- ITS FALSE NEIGHBOUR: 'it returns false'. Refute it at one input. -/
def clockSparesWrong : ChangeSpec := { name := "clockSpares", fn := fun _ => fun
  | [d1, d2] => { results := [.lit (.bool false)], args := [d1, d2] }
  | _ => none }
def ClockSparesWrongFalsely : Prop := clockSparesRow.holds Try.pinned (OpenSpec.ofChange clockSparesWrong)

/-- 'flotillalaw14.ClockTurns': WHATEVER THE INPUT: true; the input reads as it did. -/
def clockTurnsSpec : ChangeSpec := { name := "clockTurns", fn := fun _ => fun
  | [d1, d2] => { results := [.lit (.bool true)], args := [d1, d2] }
  | _ => none }
def clockTurnsRow : OpenClaim := { program := "ytnghnolpohahpaa", sum := "b56df03ea50e201524c0e1387717cb1c212fd8c0e60d333a70f5cd55772e74da", func := "flotilla/flotillalaw14.ClockTurns", spec := "clockTurns", apart := false }
def ClockTurnsSaid : Prop := clockTurnsRow.holds Try.pinned (OpenSpec.ofChange clockTurnsSpec)

/-- ITS FALSE NEIGHBOUR: 'it returns false'. Refute it at one input. -/
def clockTurnsWrong : ChangeSpec := { name := "clockTurns", fn := fun _ => fun
  | [d1, d2] => { results := [.lit (.bool false)], args := [d1, d2] }
  | _ => none }
def ClockTurnsWrongFalsely : Prop := clockTurnsRow.holds Try.pinned (OpenSpec.ofChange clockTurnsWrong)

/-- 'flotillalaw14.ClockChance': WHATEVER THE INPUT: true; the input reads as it did. -/
def clockChanceSpec : ChangeSpec := { name := "clockChance", fn := fun _ => fun
  | [d1, d2, d3] => { results := [.lit (.bool true)], args := [d1, d2, d3] }
  | _ => none }
def clockChanceRow : OpenClaim := { program := "ytnghnolpohahpaa", sum := "b56df03ea50e201524c0e1387717cb1c212fd8c0e60d333a70f5cd55772e74da", func := "flotilla/flotillalaw14.ClockChance", spec := "clockChance", apart := false }
def ClockChanceSaid : Prop := clockChanceRow.holds Try.pinned (OpenSpec.ofChange clockChanceSpec)

/-- ITS FALSE NEIGHBOUR: 'it returns false'. Refute it at one input. -/
def clockChanceWrong : ChangeSpec := { name := "clockChance", fn := fun _ => fun
  | [d1, d2, d3] => { results := [.lit (.bool false)], args := [d1, d2, d3] }
  | _ => none }
def ClockChanceWrongFalsely : Prop := clockChanceRow.holds Try.pinned (OpenSpec.ofChange clockChanceWrong)

/- THE SECOND FORM. 'bulk': how many values and letters a reading holds, each counted each time it is reached (what is shared counts as often as it is met; a slice's spare places count too). A statement '..UptoSaid' is the law's where the arguments, and the package variables that the reading takes, are together of bulk at most 1048576: NARROWER than '..Said'. Prove '..Said' where nothing that the law and all that it calls make is longer than what came in: it says more and counts as full. Else prove '..UptoSaid'. A law counts once. -/
mutual
def uptoBulk {H : Type} : DataW H → Nat
  | .lit (.string bytes) => bytes.length + 1
  | .lit _ => 1
  | .nil => 1
  | .ptr d => uptoBulk d + 1
  | .slice elems spare => uptoBulkAll elems + uptoBulkAll spare + 1
  | .agg parts => uptoBulkAll parts + 1
  | .iface _ d => uptoBulk d + 1
  | .map entries => uptoBulkEntries entries + 1
  | .held _ => 1
def uptoBulkAll {H : Type} : List (DataW H) → Nat
  | [] => 0
  | d :: r => uptoBulk d + uptoBulkAll r
def uptoBulkEntries {H : Type} : List (Lit × DataW H) → Nat
  | [] => 0
  | x :: r => uptoBulkEntry x + uptoBulkEntries r
def uptoBulkEntry {H : Type} : Lit × DataW H → Nat
  | (.string bytes, d) => bytes.length + uptoBulk d + 1
  | (_, d) => uptoBulk d + 1
 end
def uptoSmall : (H : Type) → List (DataW H) → Bool := fun _ ds => decide (uptoBulkAll ds ≤ 1048576)
def OpenSpec.upto (s : _root_.Go.ChangeSpec) : _root_.Go.OpenSpec := { _root_.Go.OpenSpec.ofChange s with cond := some uptoSmall }

/-- 'flotillalaw14.ClockNews', WHERE WHAT IT READS IS OF BULK AT MOST 1048576: true; the input reads as it did. -/
def clockNewsUptoRow : OpenClaim := { program := "ytnghnolpohahpaa", sum := "b56df03ea50e201524c0e1387717cb1c212fd8c0e60d333a70f5cd55772e74da", func := "flotilla/flotillalaw14.ClockNews", spec := "clockNews", apart := false, narrowed := true }
def ClockNewsUptoSaid : Prop := clockNewsUptoRow.holds Try.pinned (OpenSpec.upto clockNewsSpec)

/-- 'flotillalaw14.ClockAsks', WHERE WHAT IT READS IS OF BULK AT MOST 1048576: true; the input reads as it did. -/
def clockAsksUptoRow : OpenClaim := { program := "ytnghnolpohahpaa", sum := "b56df03ea50e201524c0e1387717cb1c212fd8c0e60d333a70f5cd55772e74da", func := "flotilla/flotillalaw14.ClockAsks", spec := "clockAsks", apart := false, narrowed := true }
def ClockAsksUptoSaid : Prop := clockAsksUptoRow.holds Try.pinned (OpenSpec.upto clockAsksSpec)

/-- 'flotillalaw14.ClockPlays', WHERE WHAT IT READS IS OF BULK AT MOST 1048576: true; the input reads as it did. -/
def clockPlaysUptoRow : OpenClaim := { program := "ytnghnolpohahpaa", sum := "b56df03ea50e201524c0e1387717cb1c212fd8c0e60d333a70f5cd55772e74da", func := "flotilla/flotillalaw14.ClockPlays", spec := "clockPlays", apart := false, narrowed := true }
def ClockPlaysUptoSaid : Prop := clockPlaysUptoRow.holds Try.pinned (OpenSpec.upto clockPlaysSpec)

/-- 'flotillalaw14.ClockSpares', WHERE WHAT IT READS IS OF BULK AT MOST 1048576: true; the input reads as it did. -/
def clockSparesUptoRow : OpenClaim := { program := "ytnghnolpohahpaa", sum := "b56df03ea50e201524c0e1387717cb1c212fd8c0e60d333a70f5cd55772e74da", func := "flotilla/flotillalaw14.ClockSpares", spec := "clockSpares", apart := false, narrowed := true }
def ClockSparesUptoSaid : Prop := clockSparesUptoRow.holds Try.pinned (OpenSpec.upto clockSparesSpec)

/-- 'flotillalaw14.ClockTurns', WHERE WHAT IT READS IS OF BULK AT MOST 1048576: true; the input reads as it did. -/
def clockTurnsUptoRow : OpenClaim := { program := "ytnghnolpohahpaa", sum := "b56df03ea50e201524c0e1387717cb1c212fd8c0e60d333a70f5cd55772e74da", func := "flotilla/flotillalaw14.ClockTurns", spec := "clockTurns", apart := false, narrowed := true }
def ClockTurnsUptoSaid : Prop := clockTurnsUptoRow.holds Try.pinned (OpenSpec.upto clockTurnsSpec)

/-- 'flotillalaw14.ClockChance', WHERE WHAT IT READS IS OF BULK AT MOST 1048576: true; the input reads as it did. -/
def clockChanceUptoRow : OpenClaim := { program := "ytnghnolpohahpaa", sum := "b56df03ea50e201524c0e1387717cb1c212fd8c0e60d333a70f5cd55772e74da", func := "flotilla/flotillalaw14.ClockChance", spec := "clockChance", apart := false, narrowed := true }
def ClockChanceUptoSaid : Prop := clockChanceUptoRow.holds Try.pinned (OpenSpec.upto clockChanceSpec)

end Rows
end Go.Proofs.Ytnghnolpohahpaa
