/-
  No cell of these rows narrows 'for every input' (looked for: loops, veiled, ifaces, maps, wideKeys, modest, calm, conditions, laid).
  DERIVED. THE GIVEN ROWS OF THIS SEAT. 7 by the template 'for every input the law returns true; each argument reads behind the call as it read before'; 0 by the template 'total and deterministic' (their statements: YtcglfpfbgefmcaaTotals.lean).
  GIVEN WITH THE SEED: the statements are not yours to turn. If you find one false, say at which input.
  Laid BY PROGRAM, IN A SANDBOX (cutbox-rows.mjs): the forced cells as the released guide's own fill.sh prints them over the translation aaac0ceed2aeccc2… (all of the seat's roots in one cut). By AI agents, Wed Nov 11 2026. No macro, syntax, notation, axiom, sorry.
-/
import Derived.Test.YtcglfpfbgefmcaaChecked
import GoSem.Claim
import GoSem.ClaimJoined
import GoSem.ClaimMapViews
import Derived.JoinedTies
import Derived.KernelRfl
namespace Go.Proofs.Ytcglfpfbgefmcaa
/- THE CELL 'sum', in the pinned program and in every row, IS THE sha256 OF THE DUMP (.gsa) THAT YtcglfpfbgefmcaaProg.lean LOADS. Nothing in Lean hashes anything: it is a label: what it is worth is what the hold of that sum in a sandbox is worth. -/
noncomputable def Try.pinned : Pinned := { name := "ytcglfpfbgefmcaa", sum := "aaac0ceed2aeccc22501124c0038c05f5fb191de690f0e73644e8164fcfd11b2", checked := Try.checked }
namespace Rows
def none {H : Type} : Left H := { results := [], args := [] }

/-- 'flotillalaw04.ModeTurned': WHATEVER THE INPUT: true; the input reads as it did. -/
def modeTurnedSpec : ChangeSpec := { name := "modeTurned", fn := fun _ => fun
  | [d1, d2] => { results := [.lit (.bool true)], args := [d1, d2] }
  | _ => none }
def modeTurnedRow : OpenClaim := { program := "ytcglfpfbgefmcaa", sum := "aaac0ceed2aeccc22501124c0038c05f5fb191de690f0e73644e8164fcfd11b2", func := "flotilla/flotillalaw04.ModeTurned", spec := "modeTurned", apart := false }
def ModeTurnedSaid : Prop := modeTurnedRow.holds Try.pinned (OpenSpec.ofChange modeTurnedSpec)

/-- ITS FALSE NEIGHBOUR: 'it returns false'. Refute it at one input. -/
def modeTurnedWrong : ChangeSpec := { name := "modeTurned", fn := fun _ => fun
  | [d1, d2] => { results := [.lit (.bool false)], args := [d1, d2] }
  | _ => none }
def ModeTurnedWrongFalsely : Prop := modeTurnedRow.holds Try.pinned (OpenSpec.ofChange modeTurnedWrong)

/-- 'flotillalaw04.ModeAbove': WHATEVER THE INPUT: true; the input reads as it did. -/
def modeAboveSpec : ChangeSpec := { name := "modeAbove", fn := fun _ => fun
  | [d1, d2] => { results := [.lit (.bool true)], args := [d1, d2] }
  | _ => none }
def modeAboveRow : OpenClaim := { program := "ytcglfpfbgefmcaa", sum := "aaac0ceed2aeccc22501124c0038c05f5fb191de690f0e73644e8164fcfd11b2", func := "flotilla/flotillalaw04.ModeAbove", spec := "modeAbove", apart := false }
def ModeAboveSaid : Prop := modeAboveRow.holds Try.pinned (OpenSpec.ofChange modeAboveSpec)

/-- ITS FALSE NEIGHBOUR: 'it returns false'. Refute it at one input. -/
def modeAboveWrong : ChangeSpec := { name := "modeAbove", fn := fun _ => fun
  | [d1, d2] => { results := [.lit (.bool false)], args := [d1, d2] }
  | _ => none }
def ModeAboveWrongFalsely : Prop := modeAboveRow.holds Try.pinned (OpenSpec.ofChange modeAboveWrong)

/-- 'flotillalaw04.ModeTells': WHATEVER THE INPUT: true; the input reads as it did. -/
def modeTellsSpec : ChangeSpec := { name := "modeTells", fn := fun _ => fun
  | [d1, d2] => { results := [.lit (.bool true)], args := [d1, d2] }
  | _ => none }
def modeTellsRow : OpenClaim := { program := "ytcglfpfbgefmcaa", sum := "aaac0ceed2aeccc22501124c0038c05f5fb191de690f0e73644e8164fcfd11b2", func := "flotilla/flotillalaw04.ModeTells", spec := "modeTells", apart := false }
def ModeTellsSaid : Prop := modeTellsRow.holds Try.pinned (OpenSpec.ofChange modeTellsSpec)

/-- ITS FALSE NEIGHBOUR: 'it returns false'. Refute it at one input. -/
def modeTellsWrong : ChangeSpec := { name := "modeTells", fn := fun _ => fun
  | [d1, d2] => { results := [.lit (.bool false)], args := [d1, d2] }
  | _ => none }
def ModeTellsWrongFalsely : Prop := modeTellsRow.holds Try.pinned (OpenSpec.ofChange modeTellsWrong)

/-- 'flotillalaw04.ModeTogether': WHATEVER THE INPUT: true; the input reads as it did. -/
def modeTogetherSpec : ChangeSpec := { name := "modeTogether", fn := fun _ => fun
  | [d1, d2, d3] => { results := [.lit (.bool true)], args := [d1, d2, d3] }
  | _ => none }
def modeTogetherRow : OpenClaim := { program := "ytcglfpfbgefmcaa", sum := "aaac0ceed2aeccc22501124c0038c05f5fb191de690f0e73644e8164fcfd11b2", func := "flotilla/flotillalaw04.ModeTogether", spec := "modeTogether", apart := false }
def ModeTogetherSaid : Prop := modeTogetherRow.holds Try.pinned (OpenSpec.ofChange modeTogetherSpec)

/-- ITS FALSE NEIGHBOUR: 'it returns false'. Refute it at one input. -/
def modeTogetherWrong : ChangeSpec := { name := "modeTogether", fn := fun _ => fun
  | [d1, d2, d3] => { results := [.lit (.bool false)], args := [d1, d2, d3] }
  | _ => none }
def ModeTogetherWrongFalsely : Prop := modeTogetherRow.holds Try.pinned (OpenSpec.ofChange modeTogetherWrong)

/-- 'flotillalaw04.ModeNames': WHATEVER THE INPUT: true; the input reads as it did. -/
def modeNamesSpec : ChangeSpec := { name := "modeNames", fn := fun _ => fun
  | [d1, d2] => { results := [.lit (.bool true)], args := [d1, d2] }
  | _ => none }
def modeNamesRow : OpenClaim := { program := "ytcglfpfbgefmcaa", sum := "aaac0ceed2aeccc22501124c0038c05f5fb191de690f0e73644e8164fcfd11b2", func := "flotilla/flotillalaw04.ModeNames", spec := "modeNames", apart := false }
def ModeNamesSaid : Prop := modeNamesRow.holds Try.pinned (OpenSpec.ofChange modeNamesSpec)

/-- ITS FALSE NEIGHBOUR: 'it returns false'. Refute it at one input. -/
def modeNamesWrong : ChangeSpec := { name := "modeNames", fn := fun _ => fun
  | [d1, d2] => { results := [.lit (.bool false)], args := [d1, d2] }
  | _ => none }
def ModeNamesWrongFalsely : Prop := modeNamesRow.holds Try.pinned (OpenSpec.ofChange modeNamesWrong)

/-- 'flotillalaw04.ModeGroups': WHATEVER THE INPUT: true; the input reads as it did. -/
def modeGroupsSpec : ChangeSpec := { name := "modeGroups", fn := fun _ => fun
  | [d1, d2] => { results := [.lit (.bool true)], args := [d1, d2] }
  | _ => none }
def modeGroupsRow : OpenClaim := { program := "ytcglfpfbgefmcaa", sum := "aaac0ceed2aeccc22501124c0038c05f5fb191de690f0e73644e8164fcfd11b2", func := "flotilla/flotillalaw04.ModeGroups", spec := "modeGroups", apart := false }
def ModeGroupsSaid : Prop := modeGroupsRow.holds Try.pinned (OpenSpec.ofChange modeGroupsSpec)

/-- ITS FALSE NEIGHBOUR: 'it returns false'. Refute it at one input. -/
def modeGroupsWrong : ChangeSpec := { name := "modeGroups", fn := fun _ => fun
  | [d1, d2] => { results := [.lit (.bool false)], args := [d1, d2] }
  | _ => none }
def ModeGroupsWrongFalsely : Prop := modeGroupsRow.holds Try.pinned (OpenSpec.ofChange modeGroupsWrong)

/-- 'flotillalaw04.ModeJoins': WHATEVER THE INPUT: true; the input reads as it did. -/
def modeJoinsSpec : ChangeSpec := { name := "modeJoins", fn := fun _ => fun
  | [d1, d2] => { results := [.lit (.bool true)], args := [d1, d2] }
  | _ => none }
def modeJoinsRow : OpenClaim := { program := "ytcglfpfbgefmcaa", sum := "aaac0ceed2aeccc22501124c0038c05f5fb191de690f0e73644e8164fcfd11b2", func := "flotilla/flotillalaw04.ModeJoins", spec := "modeJoins", apart := false }
def ModeJoinsSaid : Prop := modeJoinsRow.holds Try.pinned (OpenSpec.ofChange modeJoinsSpec)

/-- ITS FALSE NEIGHBOUR: 'it returns false'. Refute it at one input. -/
def modeJoinsWrong : ChangeSpec := { name := "modeJoins", fn := fun _ => fun
  | [d1, d2] => { results := [.lit (.bool false)], args := [d1, d2] }
  | _ => none }
def ModeJoinsWrongFalsely : Prop := modeJoinsRow.holds Try.pinned (OpenSpec.ofChange modeJoinsWrong)

/- THE SECOND FORM. 'bulk': how many values and letters a reading holds, each counted each time it is reached (what is shared counts as often as it is met; a slice's spare places count too). A statement '..UptoSaid' is the law's where the arguments, and the package variables that the reading takes, are together of bulk at most 1048576: NARROWER than '..Said'. Prove '..Said' where nothing that the law and all that it calls make is longer than what came in: it says more and counts as full. Else prove '..UptoSaid'. A law counts once. -/
mutual
def uptoBulk {H : Type} : DataW H → Nat
  | .lit (.string bytes) => bytes.length + 1
  | .lit _ => 1
  | .nil => 1
  | .ptr d => uptoBulk d + 1
  | .slice elems spare => uptoBulkAll elems + uptoBulkAll spare + 1
  | .agg parts => uptoBulkAll parts + 1
  | .iface _ d => uptoBulk d + 1
  | .map entries => uptoBulkEntries entries + 1
  | .held _ => 1
def uptoBulkAll {H : Type} : List (DataW H) → Nat
  | [] => 0
  | d :: r => uptoBulk d + uptoBulkAll r
def uptoBulkEntries {H : Type} : List (Lit × DataW H) → Nat
  | [] => 0
  | x :: r => uptoBulkEntry x + uptoBulkEntries r
def uptoBulkEntry {H : Type} : Lit × DataW H → Nat
  | (.string bytes, d) => bytes.length + uptoBulk d + 1
  | (_, d) => uptoBulk d + 1
 end
def uptoSmall : (H : Type) → List (DataW H) → Bool := fun _ ds => decide (uptoBulkAll ds ≤ 1048576)
def OpenSpec.upto (s : _root_.Go.ChangeSpec) : _root_.Go.OpenSpec := { _root_.Go.OpenSpec.ofChange s with cond := some uptoSmall }

/-- 'flotillalaw04.ModeTurned', WHERE WHAT IT READS IS OF BULK AT MOST 1048576: true; the input reads as it did. -/
def modeTurnedUptoRow : OpenClaim := { program := "ytcglfpfbgefmcaa", sum := "aaac0ceed2aeccc22501124c0038c05f5fb191de690f0e73644e8164fcfd11b2", func := "flotilla/flotillalaw04.ModeTurned", spec := "modeTurned", apart := false, narrowed := true }
def ModeTurnedUptoSaid : Prop := modeTurnedUptoRow.holds Try.pinned (OpenSpec.upto modeTurnedSpec)

/-- 'flotillalaw04.ModeAbove', WHERE WHAT IT READS IS OF BULK AT MOST 1048576: true; the input reads as it did. -/
def modeAboveUptoRow : OpenClaim := { program := "ytcglfpfbgefmcaa", sum := "aaac0ceed2aeccc22501124c0038c05f5fb191de690f0e73644e8164fcfd11b2", func := "flotilla/flotillalaw04.ModeAbove", spec := "modeAbove", apart := false, narrowed := true }
def ModeAboveUptoSaid : Prop := modeAboveUptoRow.holds Try.pinned (OpenSpec.upto modeAboveSpec)

/-- 'flotillalaw04.ModeTells', WHERE WHAT IT READS IS OF BULK AT MOST 1048576: true; the input reads as it did. -/
def modeTellsUptoRow : OpenClaim := { program := "ytcglfpfbgefmcaa", sum := "aaac0ceed2aeccc22501124c0038c05f5fb191de690f0e73644e8164fcfd11b2", func := "flotilla/flotillalaw04.ModeTells", spec := "modeTells", apart := false, narrowed := true }
def ModeTellsUptoSaid : Prop := modeTellsUptoRow.holds Try.pinned (OpenSpec.upto modeTellsSpec)

/-- 'flotillalaw04.ModeTogether', WHERE WHAT IT READS IS OF BULK AT MOST 1048576: true; the input reads as it did. -/
def modeTogetherUptoRow : OpenClaim := { program := "ytcglfpfbgefmcaa", sum := "aaac0ceed2aeccc22501124c0038c05f5fb191de690f0e73644e8164fcfd11b2", func := "flotilla/flotillalaw04.ModeTogether", spec := "modeTogether", apart := false, narrowed := true }
def ModeTogetherUptoSaid : Prop := modeTogetherUptoRow.holds Try.pinned (OpenSpec.upto modeTogetherSpec)

/-- 'flotillalaw04.ModeNames', WHERE WHAT IT READS IS OF BULK AT MOST 1048576: true; the input reads as it did. -/
def modeNamesUptoRow : OpenClaim := { program := "ytcglfpfbgefmcaa", sum := "aaac0ceed2aeccc22501124c0038c05f5fb191de690f0e73644e8164fcfd11b2", func := "flotilla/flotillalaw04.ModeNames", spec := "modeNames", apart := false, narrowed := true }
def ModeNamesUptoSaid : Prop := modeNamesUptoRow.holds Try.pinned (OpenSpec.upto modeNamesSpec)

/-- 'flotillalaw04.ModeGroups', WHERE WHAT IT READS IS OF BULK AT MOST 1048576: true; the input reads as it did. -/
def modeGroupsUptoRow : OpenClaim := { program := "ytcglfpfbgefmcaa", sum := "aaac0ceed2aeccc22501124c0038c05f5fb191de690f0e73644e8164fcfd11b2", func := "flotilla/flotillalaw04.ModeGroups", spec := "modeGroups", apart := false, narrowed := true }
def ModeGroupsUptoSaid : Prop := modeGroupsUptoRow.holds Try.pinned (OpenSpec.upto modeGroupsSpec)

/-- 'flotillalaw04.ModeJoins', WHERE WHAT IT READS IS OF BULK AT MOST 1048576: true; the input reads as it did. -/
def modeJoinsUptoRow : OpenClaim := { program := "ytcglfpfbgefmcaa", sum := "aaac0ceed2aeccc22501124c0038c05f5fb191de690f0e73644e8164fcfd11b2", func := "flotilla/flotillalaw04.ModeJoins", spec := "modeJoins", apart := false, narrowed := true }
def ModeJoinsUptoSaid : Prop := modeJoinsUptoRow.holds Try.pinned (OpenSpec.upto modeJoinsSpec)

end Rows
end Go.Proofs.Ytcglfpfbgefmcaa
