/-
  No cell of these rows narrows 'for every input' (looked for: loops, veiled, ifaces, maps, wideKeys, modest, calm, conditions, laid).
  DERIVED. THE GIVEN ROWS OF THIS SEAT. 5 by the template 'for every input the law returns true; each argument reads behind the call as it read before'; 0 by the template 'total and deterministic' (their statements: YtibacmekhkaipaaTotals.lean).
  GIVEN WITH THE SEED: the statements are not yours to turn. If you find one false, say at which input.
  Laid BY PROGRAM, IN A SANDBOX (cutbox-rows.mjs): the forced cells as the released guide's own fill.sh prints them over the translation 6f5339501a9b728d… (all of the seat's roots in one cut). By AI agents, Wed Nov 11 2026. No macro, syntax, notation, axiom, sorry.
-/
import Derived.Test.YtibacmekhkaipaaChecked
import GoSem.Claim
import GoSem.ClaimJoined
import GoSem.ClaimMapViews
import Derived.JoinedTies
import Derived.KernelRfl
namespace Go.Proofs.Ytibacmekhkaipaa
/- THE CELL 'sum', in the pinned program and in every row, IS THE sha256 OF THE DUMP (.gsa) THAT YtibacmekhkaipaaProg.lean LOADS. Nothing in Lean hashes anything: it is a label: what it is worth is what the hold of that sum in a sandbox is worth. -/
noncomputable def Try.pinned : Pinned := { name := "ytibacmekhkaipaa", sum := "6f5339501a9b728d8dca6da1940aa6433d3ed7a8578d996f5399aa9ea28cc789", checked := Try.checked }
namespace Rows
def none {H : Type} : Left H := { results := [], args := [] }

/-- 'flotillalaw01.EncOwn': WHATEVER THE INPUT: true; the input reads as it did. -/
def encOwnSpec : ChangeSpec := { name := "encOwn", fn := fun _ => fun
  | [d1, d2] => { results := [.lit (.bool true)], args := [d1, d2] }
  | _ => none }
def encOwnRow : OpenClaim := { program := "ytibacmekhkaipaa", sum := "6f5339501a9b728d8dca6da1940aa6433d3ed7a8578d996f5399aa9ea28cc789", func := "flotilla/flotillalaw01.EncOwn", spec := "encOwn", apart := false }
def EncOwnSaid : Prop := encOwnRow.holds Try.pinned (OpenSpec.ofChange encOwnSpec)

/-- ITS FALSE NEIGHBOUR: 'it returns false'. Refute it at one input. -/
def encOwnWrong : ChangeSpec := { name := "encOwn", fn := fun _ => fun
  | [d1, d2] => { results := [.lit (.bool false)], args := [d1, d2] }
  | _ => none }
def EncOwnWrongFalsely : Prop := encOwnRow.holds Try.pinned (OpenSpec.ofChange encOwnWrong)

/-- 'flotillalaw01.EncLays': WHATEVER THE INPUT: true; the input reads as it did. -/
def encLaysSpec : ChangeSpec := { name := "encLays", fn := fun _ => fun
  | [d] => { results := [.lit (.bool true)], args := [d] }
  | _ => none }
def encLaysRow : OpenClaim := { program := "ytibacmekhkaipaa", sum := "6f5339501a9b728d8dca6da1940aa6433d3ed7a8578d996f5399aa9ea28cc789", func := "flotilla/flotillalaw01.EncLays", spec := "encLays", apart := false }
def EncLaysSaid : Prop := encLaysRow.holds Try.pinned (OpenSpec.ofChange encLaysSpec)

/-- ITS FALSE NEIGHBOUR: 'it returns false'. Refute it at one input. -/
def encLaysWrong : ChangeSpec := { name := "encLays", fn := fun _ => fun
  | [d] => { results := [.lit (.bool false)], args := [d] }
  | _ => none }
def EncLaysWrongFalsely : Prop := encLaysRow.holds Try.pinned (OpenSpec.ofChange encLaysWrong)

/-- 'flotillalaw01.EncCut': WHATEVER THE INPUT: true; the input reads as it did. -/
def encCutSpec : ChangeSpec := { name := "encCut", fn := fun _ => fun
  | [d1, d2] => { results := [.lit (.bool true)], args := [d1, d2] }
  | _ => none }
def encCutRow : OpenClaim := { program := "ytibacmekhkaipaa", sum := "6f5339501a9b728d8dca6da1940aa6433d3ed7a8578d996f5399aa9ea28cc789", func := "flotilla/flotillalaw01.EncCut", spec := "encCut", apart := false }
def EncCutSaid : Prop := encCutRow.holds Try.pinned (OpenSpec.ofChange encCutSpec)

/-- ITS FALSE NEIGHBOUR: 'it returns false'. Refute it at one input. -/
def encCutWrong : ChangeSpec := { name := "encCut", fn := fun _ => fun
  | [d1, d2] => { results := [.lit (.bool false)], args := [d1, d2] }
  | _ => none }
def EncCutWrongFalsely : Prop := encCutRow.holds Try.pinned (OpenSpec.ofChange encCutWrong)

/-- 'flotillalaw01.EncBack': WHATEVER THE INPUT: true; the input reads as it did. -/
def encBackSpec : ChangeSpec := { name := "encBack", fn := fun _ => fun
  | [d] => { results := [.lit (.bool true)], args := [d] }
  | _ => none }
def encBackRow : OpenClaim := { program := "ytibacmekhkaipaa", sum := "6f5339501a9b728d8dca6da1940aa6433d3ed7a8578d996f5399aa9ea28cc789", func := "flotilla/flotillalaw01.EncBack", spec := "encBack", apart := false }
def EncBackSaid : Prop := encBackRow.holds Try.pinned (OpenSpec.ofChange encBackSpec)

/-- ITS FALSE NEIGHBOUR: 'it returns false'. Refute it at one input. -/
def encBackWrong : ChangeSpec := { name := "encBack", fn := fun _ => fun
  | [d] => { results := [.lit (.bool false)], args := [d] }
  | _ => none }
def EncBackWrongFalsely : Prop := encBackRow.holds Try.pinned (OpenSpec.ofChange encBackWrong)

/-- 'flotillalaw01.EncTakes': WHATEVER THE INPUT: true; the input reads as it did. -/
def encTakesSpec : ChangeSpec := { name := "encTakes", fn := fun _ => fun
  | [d1, d2] => { results := [.lit (.bool true)], args := [d1, d2] }
  | _ => none }
def encTakesRow : OpenClaim := { program := "ytibacmekhkaipaa", sum := "6f5339501a9b728d8dca6da1940aa6433d3ed7a8578d996f5399aa9ea28cc789", func := "flotilla/flotillalaw01.EncTakes", spec := "encTakes", apart := false }
def EncTakesSaid : Prop := encTakesRow.holds Try.pinned (OpenSpec.ofChange encTakesSpec)

/-- ITS FALSE NEIGHBOUR: 'it returns false'. Refute it at one input. -/
def encTakesWrong : ChangeSpec := { name := "encTakes", fn := fun _ => fun
  | [d1, d2] => { results := [.lit (.bool false)], args := [d1, d2] }
  | _ => none }
def EncTakesWrongFalsely : Prop := encTakesRow.holds Try.pinned (OpenSpec.ofChange encTakesWrong)

/- THE SECOND FORM. 'bulk': how many values and letters a reading holds, each counted each time it is reached (what is shared counts as often as it is met; a slice's spare places count too). A statement '..UptoSaid' is the law's where the arguments, and the package variables that the reading takes, are together of bulk at most 1048576: NARROWER than '..Said'. Prove '..Said' where nothing that the law and all that it calls make is longer than what came in: it says more and counts as full. Else prove '..UptoSaid'. A law counts once. -/
mutual
def uptoBulk {H : Type} : DataW H → Nat
  | .lit (.string bytes) => bytes.length + 1
  | .lit _ => 1
  | .nil => 1
  | .ptr d => uptoBulk d + 1
  | .slice elems spare => uptoBulkAll elems + uptoBulkAll spare + 1
  | .agg parts => uptoBulkAll parts + 1
  | .iface _ d => uptoBulk d + 1
  | .map entries => uptoBulkEntries entries + 1
  | .held _ => 1
def uptoBulkAll {H : Type} : List (DataW H) → Nat
  | [] => 0
  | d :: r => uptoBulk d + uptoBulkAll r
def uptoBulkEntries {H : Type} : List (Lit × DataW H) → Nat
  | [] => 0
  | x :: r => uptoBulkEntry x + uptoBulkEntries r
def uptoBulkEntry {H : Type} : Lit × DataW H → Nat
  | (.string bytes, d) => bytes.length + uptoBulk d + 1
  | (_, d) => uptoBulk d + 1
 end
def uptoSmall : (H : Type) → List (DataW H) → Bool := fun _ ds => decide (uptoBulkAll ds ≤ 1048576)
def OpenSpec.upto (s : _root_.Go.ChangeSpec) : _root_.Go.OpenSpec := { _root_.Go.OpenSpec.ofChange s with cond := some uptoSmall }

/-- 'flotillalaw01.EncOwn', WHERE WHAT IT READS IS OF BULK AT MOST 1048576: true; the input reads as it did. -/
def encOwnUptoRow : OpenClaim := { program := "ytibacmekhkaipaa", sum := "6f5339501a9b728d8dca6da1940aa6433d3ed7a8578d996f5399aa9ea28cc789", func := "flotilla/flotillalaw01.EncOwn", spec := "encOwn", apart := false, narrowed := true }
def EncOwnUptoSaid : Prop := encOwnUptoRow.holds Try.pinned (OpenSpec.upto encOwnSpec)

/-- 'flotillalaw01.EncLays', WHERE WHAT IT READS IS OF BULK AT MOST 1048576: true; the input reads as it did. -/
def encLaysUptoRow : OpenClaim := { program := "ytibacmekhkaipaa", sum := "6f5339501a9b728d8dca6da1940aa6433d3ed7a8578d996f5399aa9ea28cc789", func := "flotilla/flotillalaw01.EncLays", spec := "encLays", apart := false, narrowed := true }
def EncLaysUptoSaid : Prop := encLaysUptoRow.holds Try.pinned (OpenSpec.upto encLaysSpec)

/-- 'flotillalaw01.EncCut', WHERE WHAT IT READS IS OF BULK AT MOST 1048576: true; the input reads as it did. -/
def encCutUptoRow : OpenClaim := { program := "ytibacmekhkaipaa", sum := "6f5339501a9b728d8dca6da1940aa6433d3ed7a8578d996f5399aa9ea28cc789", func := "flotilla/flotillalaw01.EncCut", spec := "encCut", apart := false, narrowed := true }
def EncCutUptoSaid : Prop := encCutUptoRow.holds Try.pinned (OpenSpec.upto encCutSpec)

/-- 'flotillalaw01.EncBack', WHERE WHAT IT READS IS OF BULK AT MOST 1048576: true; the input reads as it did. -/
def encBackUptoRow : OpenClaim := { program := "ytibacmekhkaipaa", sum := "6f5339501a9b728d8dca6da1940aa6433d3ed7a8578d996f5399aa9ea28cc789", func := "flotilla/flotillalaw01.EncBack", spec := "encBack", apart := false, narrowed := true }
def EncBackUptoSaid : Prop := encBackUptoRow.holds Try.pinned (OpenSpec.upto encBackSpec)

/-- 'flotillalaw01.EncTakes', WHERE WHAT IT READS IS OF BULK AT MOST 1048576: true; the input reads as it did. -/
def encTakesUptoRow : OpenClaim := { program := "ytibacmekhkaipaa", sum := "6f5339501a9b728d8dca6da1940aa6433d3ed7a8578d996f5399aa9ea28cc789", func := "flotilla/flotillalaw01.EncTakes", spec := "encTakes", apart := false, narrowed := true }
def EncTakesUptoSaid : Prop := encTakesUptoRow.holds Try.pinned (OpenSpec.upto encTakesSpec)

end Rows
end Go.Proofs.Ytibacmekhkaipaa
