/-
  No cell of these rows narrows 'for every input' (looked for: loops, veiled, ifaces, maps, wideKeys, modest, calm, conditions, laid).
  DERIVED. THE GIVEN ROWS OF THIS SEAT. 5 by the template 'for every input the law returns true; each argument reads behind the call as it read before'; 0 by the template 'total and deterministic' (their statements: YtplpjikcgheiiaaTotals.lean).
  GIVEN WITH THE SEED: the statements are not yours to turn. If you find one false, say at which input.
  Laid BY PROGRAM, IN A SANDBOX (cutbox-rows.mjs): the forced cells as the released guide's own fill.sh prints them over the translation 80d4ba3ae686d501… (all of the seat's roots in one cut). By AI agents, Wed Nov 11 2026. No macro, syntax, notation, axiom, sorry.
-/
import Derived.Test.YtplpjikcgheiiaaChecked
import GoSem.Claim
import GoSem.ClaimJoined
import GoSem.ClaimMapViews
import Derived.JoinedTies
import Derived.KernelRfl
namespace Go.Proofs.Ytplpjikcgheiiaa
/- THE CELL 'sum', in the pinned program and in every row, IS THE sha256 OF THE DUMP (.gsa) THAT YtplpjikcgheiiaaProg.lean LOADS. Nothing in Lean hashes anything: it is a label: what it is worth is what the hold of that sum in a sandbox is worth. -/
noncomputable def Try.pinned : Pinned := { name := "ytplpjikcgheiiaa", sum := "80d4ba3ae686d501e235a02facb72b5ee93046763b9c81fd78126a2ffb62ad3a", checked := Try.checked }
namespace Rows
def none {H : Type} : Left H := { results := [], args := [] }

/-- 'flotillalaw09.WalGone': WHATEVER THE INPUT: true; the input reads as it did. -/
def walGoneSpec : ChangeSpec := { name := "walGone", fn := fun _ => fun
  | [d1, d2] => { results := [.lit (.bool true)], args := [d1, d2] }
  | _ => none }
def walGoneRow : OpenClaim := { program := "ytplpjikcgheiiaa", sum := "80d4ba3ae686d501e235a02facb72b5ee93046763b9c81fd78126a2ffb62ad3a", func := "flotilla/flotillalaw09.WalGone", spec := "walGone", unfollowed := true, recurses := true, apart := false }
def WalGoneSaid : Prop := walGoneRow.holds Try.pinned (OpenSpec.ofChange walGoneSpec)

/-- ITS FALSE NEIGHBOUR: 'it returns false'. Refute it at one input. -/
def walGoneWrong : ChangeSpec := { name := "walGone", fn := fun _ => fun
  | [d1, d2] => { results := [.lit (.bool false)], args := [d1, d2] }
  | _ => none }
def WalGoneWrongFalsely : Prop := walGoneRow.holds Try.pinned (OpenSpec.ofChange walGoneWrong)

/-- 'flotillalaw09.WalReads': WHATEVER THE INPUT: true; the input reads as it did. -/
def walReadsSpec : ChangeSpec := { name := "walReads", fn := fun _ => fun
  | [d1, d2] => { results := [.lit (.bool true)], args := [d1, d2] }
  | _ => none }
def walReadsRow : OpenClaim := { program := "ytplpjikcgheiiaa", sum := "80d4ba3ae686d501e235a02facb72b5ee93046763b9c81fd78126a2ffb62ad3a", func := "flotilla/flotillalaw09.WalReads", spec := "walReads", unfollowed := true, recurses := true, apart := false }
def WalReadsSaid : Prop := walReadsRow.holds Try.pinned (OpenSpec.ofChange walReadsSpec)

/-- ITS FALSE NEIGHBOUR: 'it returns false'. Refute it at one input. -/
def walReadsWrong : ChangeSpec := { name := "walReads", fn := fun _ => fun
  | [d1, d2] => { results := [.lit (.bool false)], args := [d1, d2] }
  | _ => none }
def WalReadsWrongFalsely : Prop := walReadsRow.holds Try.pinned (OpenSpec.ofChange walReadsWrong)

/-- 'flotillalaw09.WalKeeps': WHATEVER THE INPUT: true; the input reads as it did. -/
def walKeepsSpec : ChangeSpec := { name := "walKeeps", fn := fun _ => fun
  | [d1, d2, d3] => { results := [.lit (.bool true)], args := [d1, d2, d3] }
  | _ => none }
def walKeepsRow : OpenClaim := { program := "ytplpjikcgheiiaa", sum := "80d4ba3ae686d501e235a02facb72b5ee93046763b9c81fd78126a2ffb62ad3a", func := "flotilla/flotillalaw09.WalKeeps", spec := "walKeeps", unfollowed := true, recurses := true, apart := false }
def WalKeepsSaid : Prop := walKeepsRow.holds Try.pinned (OpenSpec.ofChange walKeepsSpec)

/-- ITS FALSE NEIGHBOUR: 'it returns false'. Refute it at one input. -/
def walKeepsWrong : ChangeSpec := { name := "walKeeps", fn := fun _ => fun
  | [d1, d2, d3] => { results := [.lit (.bool false)], args := [d1, d2, d3] }
  | _ => none }
def WalKeepsWrongFalsely : Prop := walKeepsRow.holds Try.pinned (OpenSpec.ofChange walKeepsWrong)

/-- 'flotillalaw09.WalTorn': WHATEVER THE INPUT: true; the input reads as it did. -/
def walTornSpec : ChangeSpec := { name := "walTorn", fn := fun _ => fun
  | [d1, d2, d3] => { results := [.lit (.bool true)], args := [d1, d2, d3] }
  | _ => none }
def walTornRow : OpenClaim := { program := "ytplpjikcgheiiaa", sum := "80d4ba3ae686d501e235a02facb72b5ee93046763b9c81fd78126a2ffb62ad3a", func := "flotilla/flotillalaw09.WalTorn", spec := "walTorn", unfollowed := true, recurses := true, apart := false }
def WalTornSaid : Prop := walTornRow.holds Try.pinned (OpenSpec.ofChange walTornSpec)

/-- ITS FALSE NEIGHBOUR: 'it returns false'. Refute it at one input. -/
def walTornWrong : ChangeSpec := { name := "walTorn", fn := fun _ => fun
  | [d1, d2, d3] => { results := [.lit (.bool false)], args := [d1, d2, d3] }
  | _ => none }
def WalTornWrongFalsely : Prop := walTornRow.holds Try.pinned (OpenSpec.ofChange walTornWrong)

/-- 'flotillalaw09.WalNils': WHATEVER THE INPUT: true; the input reads as it did. -/
def walNilsSpec : ChangeSpec := { name := "walNils", fn := fun _ => fun
  | [d1, d2, d3] => { results := [.lit (.bool true)], args := [d1, d2, d3] }
  | _ => none }
def walNilsRow : OpenClaim := { program := "ytplpjikcgheiiaa", sum := "80d4ba3ae686d501e235a02facb72b5ee93046763b9c81fd78126a2ffb62ad3a", func := "flotilla/flotillalaw09.WalNils", spec := "walNils", unfollowed := true, recurses := true, apart := false }
def WalNilsSaid : Prop := walNilsRow.holds Try.pinned (OpenSpec.ofChange walNilsSpec)

/-- ITS FALSE NEIGHBOUR: 'it returns false'. Refute it at one input. -/
def walNilsWrong : ChangeSpec := { name := "walNils", fn := fun _ => fun
  | [d1, d2, d3] => { results := [.lit (.bool false)], args := [d1, d2, d3] }
  | _ => none }
def WalNilsWrongFalsely : Prop := walNilsRow.holds Try.pinned (OpenSpec.ofChange walNilsWrong)

/- THE SECOND FORM. 'bulk': how many values and letters a reading holds, each counted each time it is reached (what is shared counts as often as it is met; a slice's spare places count too). A statement '..UptoSaid' is the law's where the arguments, and the package variables that the reading takes, are together of bulk at most 1048576: NARROWER than '..Said'. Prove '..Said' where nothing that the law and all that it calls make is longer than what came in: it says more and counts as full. Else prove '..UptoSaid'. A law counts once. -/
mutual
def uptoBulk {H : Type} : DataW H → Nat
  | .lit (.string bytes) => bytes.length + 1
  | .lit _ => 1
  | .nil => 1
  | .ptr d => uptoBulk d + 1
  | .slice elems spare => uptoBulkAll elems + uptoBulkAll spare + 1
  | .agg parts => uptoBulkAll parts + 1
  | .iface _ d => uptoBulk d + 1
  | .map entries => uptoBulkEntries entries + 1
  | .held _ => 1
def uptoBulkAll {H : Type} : List (DataW H) → Nat
  | [] => 0
  | d :: r => uptoBulk d + uptoBulkAll r
def uptoBulkEntries {H : Type} : List (Lit × DataW H) → Nat
  | [] => 0
  | x :: r => uptoBulkEntry x + uptoBulkEntries r
def uptoBulkEntry {H : Type} : Lit × DataW H → Nat
  | (.string bytes, d) => bytes.length + uptoBulk d + 1
  | (_, d) => uptoBulk d + 1
 end
def uptoSmall : (H : Type) → List (DataW H) → Bool := fun _ ds => decide (uptoBulkAll ds ≤ 1048576)
def OpenSpec.upto (s : _root_.Go.ChangeSpec) : _root_.Go.OpenSpec := { _root_.Go.OpenSpec.ofChange s with cond := some uptoSmall }

/-- 'flotillalaw09.WalGone', WHERE WHAT IT READS IS OF BULK AT MOST 1048576: true; the input reads as it did. -/
def walGoneUptoRow : OpenClaim := { program := "ytplpjikcgheiiaa", sum := "80d4ba3ae686d501e235a02facb72b5ee93046763b9c81fd78126a2ffb62ad3a", func := "flotilla/flotillalaw09.WalGone", spec := "walGone", unfollowed := true, recurses := true, apart := false, narrowed := true }
def WalGoneUptoSaid : Prop := walGoneUptoRow.holds Try.pinned (OpenSpec.upto walGoneSpec)

/-- 'flotillalaw09.WalReads', WHERE WHAT IT READS IS OF BULK AT MOST 1048576: true; the input reads as it did. -/
def walReadsUptoRow : OpenClaim := { program := "ytplpjikcgheiiaa", sum := "80d4ba3ae686d501e235a02facb72b5ee93046763b9c81fd78126a2ffb62ad3a", func := "flotilla/flotillalaw09.WalReads", spec := "walReads", unfollowed := true, recurses := true, apart := false, narrowed := true }
def WalReadsUptoSaid : Prop := walReadsUptoRow.holds Try.pinned (OpenSpec.upto walReadsSpec)

/-- 'flotillalaw09.WalKeeps', WHERE WHAT IT READS IS OF BULK AT MOST 1048576: true; the input reads as it did. -/
def walKeepsUptoRow : OpenClaim := { program := "ytplpjikcgheiiaa", sum := "80d4ba3ae686d501e235a02facb72b5ee93046763b9c81fd78126a2ffb62ad3a", func := "flotilla/flotillalaw09.WalKeeps", spec := "walKeeps", unfollowed := true, recurses := true, apart := false, narrowed := true }
def WalKeepsUptoSaid : Prop := walKeepsUptoRow.holds Try.pinned (OpenSpec.upto walKeepsSpec)

/-- 'flotillalaw09.WalTorn', WHERE WHAT IT READS IS OF BULK AT MOST 1048576: true; the input reads as it did. -/
def walTornUptoRow : OpenClaim := { program := "ytplpjikcgheiiaa", sum := "80d4ba3ae686d501e235a02facb72b5ee93046763b9c81fd78126a2ffb62ad3a", func := "flotilla/flotillalaw09.WalTorn", spec := "walTorn", unfollowed := true, recurses := true, apart := false, narrowed := true }
def WalTornUptoSaid : Prop := walTornUptoRow.holds Try.pinned (OpenSpec.upto walTornSpec)

/-- 'flotillalaw09.WalNils', WHERE WHAT IT READS IS OF BULK AT MOST 1048576: true; the input reads as it did. -/
def walNilsUptoRow : OpenClaim := { program := "ytplpjikcgheiiaa", sum := "80d4ba3ae686d501e235a02facb72b5ee93046763b9c81fd78126a2ffb62ad3a", func := "flotilla/flotillalaw09.WalNils", spec := "walNils", unfollowed := true, recurses := true, apart := false, narrowed := true }
def WalNilsUptoSaid : Prop := walNilsUptoRow.holds Try.pinned (OpenSpec.upto walNilsSpec)

end Rows
end Go.Proofs.Ytplpjikcgheiiaa
