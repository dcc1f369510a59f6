/-
  No cell of these rows narrows 'for every input' (looked for: loops, veiled, ifaces, maps, wideKeys, modest, calm, conditions, laid).
  DERIVED. THE GIVEN ROWS OF THIS SEAT. 5 by the template 'for every input the law returns true; each argument reads behind the call as it read before'; 0 by the template 'total and deterministic' (their statements: YtdkahgknoohbpaaTotals.lean).
  GIVEN WITH THE SEED: the statements are not yours to turn. If you find one false, say at which input.
  Laid BY PROGRAM, IN A SANDBOX (cutbox-rows.mjs): the forced cells as the released guide's own fill.sh prints them over the translation be81456c1ea3b017… (all of the seat's roots in one cut). By AI agents, Wed Nov 11 2026. No macro, syntax, notation, axiom, sorry.
-/
import Derived.Test.YtdkahgknoohbpaaChecked
import GoSem.Claim
import GoSem.ClaimJoined
import GoSem.ClaimMapViews
import Derived.JoinedTies
import Derived.KernelRfl
namespace Go.Proofs.Ytdkahgknoohbpaa
/- THE CELL 'sum', in the pinned program and in every row, IS THE sha256 OF THE DUMP (.gsa) THAT YtdkahgknoohbpaaProg.lean LOADS. Nothing in Lean hashes anything: it is a label: what it is worth is what the hold of that sum in a sandbox is worth. -/
noncomputable def Try.pinned : Pinned := { name := "ytdkahgknoohbpaa", sum := "be81456c1ea3b017be11a942af22d482e7e2b91c7ceb00830bda983769ba7211", checked := Try.checked }
namespace Rows
def none {H : Type} : Left H := { results := [], args := [] }

/-- 'flotillalaw08.StableWhole': WHATEVER THE INPUT: true; the input reads as it did. -/
def stableWholeSpec : ChangeSpec := { name := "stableWhole", fn := fun _ => fun
  | [d] => { results := [.lit (.bool true)], args := [d] }
  | _ => none }
def stableWholeRow : OpenClaim := { program := "ytdkahgknoohbpaa", sum := "be81456c1ea3b017be11a942af22d482e7e2b91c7ceb00830bda983769ba7211", func := "flotilla/flotillalaw08.StableWhole", spec := "stableWhole", unfollowed := true, recurses := true, apart := false }
def StableWholeSaid : Prop := stableWholeRow.holds Try.pinned (OpenSpec.ofChange stableWholeSpec)

/-- ITS FALSE NEIGHBOUR: 'it returns false'. Refute it at one input. -/
def stableWholeWrong : ChangeSpec := { name := "stableWhole", fn := fun _ => fun
  | [d] => { results := [.lit (.bool false)], args := [d] }
  | _ => none }
def StableWholeWrongFalsely : Prop := stableWholeRow.holds Try.pinned (OpenSpec.ofChange stableWholeWrong)

/-- 'flotillalaw08.StableStays': WHATEVER THE INPUT: true; the input reads as it did. -/
def stableStaysSpec : ChangeSpec := { name := "stableStays", fn := fun _ => fun
  | [d1, d2, d3] => { results := [.lit (.bool true)], args := [d1, d2, d3] }
  | _ => none }
def stableStaysRow : OpenClaim := { program := "ytdkahgknoohbpaa", sum := "be81456c1ea3b017be11a942af22d482e7e2b91c7ceb00830bda983769ba7211", func := "flotilla/flotillalaw08.StableStays", spec := "stableStays", unfollowed := true, recurses := true, apart := false }
def StableStaysSaid : Prop := stableStaysRow.holds Try.pinned (OpenSpec.ofChange stableStaysSpec)

/-- ITS FALSE NEIGHBOUR: 'it returns false'. Refute it at one input. -/
def stableStaysWrong : ChangeSpec := { name := "stableStays", fn := fun _ => fun
  | [d1, d2, d3] => { results := [.lit (.bool false)], args := [d1, d2, d3] }
  | _ => none }
def StableStaysWrongFalsely : Prop := stableStaysRow.holds Try.pinned (OpenSpec.ofChange stableStaysWrong)

/-- 'flotillalaw08.StableApart': WHATEVER THE INPUT: true; the input reads as it did. -/
def stableApartSpec : ChangeSpec := { name := "stableApart", fn := fun _ => fun
  | [d1, d2, d3] => { results := [.lit (.bool true)], args := [d1, d2, d3] }
  | _ => none }
def stableApartRow : OpenClaim := { program := "ytdkahgknoohbpaa", sum := "be81456c1ea3b017be11a942af22d482e7e2b91c7ceb00830bda983769ba7211", func := "flotilla/flotillalaw08.StableApart", spec := "stableApart", unfollowed := true, recurses := true, apart := false }
def StableApartSaid : Prop := stableApartRow.holds Try.pinned (OpenSpec.ofChange stableApartSpec)

/-- ITS FALSE NEIGHBOUR: 'it returns false'. Refute it at one input. -/
def stableApartWrong : ChangeSpec := { name := "stableApart", fn := fun _ => fun
  | [d1, d2, d3] => { results := [.lit (.bool false)], args := [d1, d2, d3] }
  | _ => none }
def StableApartWrongFalsely : Prop := stableApartRow.holds Try.pinned (OpenSpec.ofChange stableApartWrong)

/-- 'flotillalaw08.StableClones': WHATEVER THE INPUT: true; the input reads as it did. -/
def stableClonesSpec : ChangeSpec := { name := "stableClones", fn := fun _ => fun
  | [d1, d2, d3] => { results := [.lit (.bool true)], args := [d1, d2, d3] }
  | _ => none }
def stableClonesRow : OpenClaim := { program := "ytdkahgknoohbpaa", sum := "be81456c1ea3b017be11a942af22d482e7e2b91c7ceb00830bda983769ba7211", func := "flotilla/flotillalaw08.StableClones", spec := "stableClones", unfollowed := true, recurses := true, apart := false }
def StableClonesSaid : Prop := stableClonesRow.holds Try.pinned (OpenSpec.ofChange stableClonesSpec)

/-- ITS FALSE NEIGHBOUR: 'it returns false'. Refute it at one input. -/
def stableClonesWrong : ChangeSpec := { name := "stableClones", fn := fun _ => fun
  | [d1, d2, d3] => { results := [.lit (.bool false)], args := [d1, d2, d3] }
  | _ => none }
def StableClonesWrongFalsely : Prop := stableClonesRow.holds Try.pinned (OpenSpec.ofChange stableClonesWrong)

/-- 'flotillalaw08.StableNews': WHATEVER THE INPUT: true; the input reads as it did. -/
def stableNewsSpec : ChangeSpec := { name := "stableNews", fn := fun _ => fun
  | [d] => { results := [.lit (.bool true)], args := [d] }
  | _ => none }
def stableNewsRow : OpenClaim := { program := "ytdkahgknoohbpaa", sum := "be81456c1ea3b017be11a942af22d482e7e2b91c7ceb00830bda983769ba7211", func := "flotilla/flotillalaw08.StableNews", spec := "stableNews", unfollowed := true, recurses := true, apart := false }
def StableNewsSaid : Prop := stableNewsRow.holds Try.pinned (OpenSpec.ofChange stableNewsSpec)

/-- ITS FALSE NEIGHBOUR: 'it returns false'. Refute it at one input. -/
def stableNewsWrong : ChangeSpec := { name := "stableNews", fn := fun _ => fun
  | [d] => { results := [.lit (.bool false)], args := [d] }
  | _ => none }
def StableNewsWrongFalsely : Prop := stableNewsRow.holds Try.pinned (OpenSpec.ofChange stableNewsWrong)

/- THE SECOND FORM. 'bulk': how many values and letters a reading holds, each counted each time it is reached (what is shared counts as often as it is met; a slice's spare places count too). A statement '..UptoSaid' is the law's where the arguments, and the package variables that the reading takes, are together of bulk at most 1048576: NARROWER than '..Said'. Prove '..Said' where nothing that the law and all that it calls make is longer than what came in: it says more and counts as full. Else prove '..UptoSaid'. A law counts once. -/
mutual
def uptoBulk {H : Type} : DataW H → Nat
  | .lit (.string bytes) => bytes.length + 1
  | .lit _ => 1
  | .nil => 1
  | .ptr d => uptoBulk d + 1
  | .slice elems spare => uptoBulkAll elems + uptoBulkAll spare + 1
  | .agg parts => uptoBulkAll parts + 1
  | .iface _ d => uptoBulk d + 1
  | .map entries => uptoBulkEntries entries + 1
  | .held _ => 1
def uptoBulkAll {H : Type} : List (DataW H) → Nat
  | [] => 0
  | d :: r => uptoBulk d + uptoBulkAll r
def uptoBulkEntries {H : Type} : List (Lit × DataW H) → Nat
  | [] => 0
  | x :: r => uptoBulkEntry x + uptoBulkEntries r
def uptoBulkEntry {H : Type} : Lit × DataW H → Nat
  | (.string bytes, d) => bytes.length + uptoBulk d + 1
  | (_, d) => uptoBulk d + 1
 end
def uptoSmall : (H : Type) → List (DataW H) → Bool := fun _ ds => decide (uptoBulkAll ds ≤ 1048576)
def OpenSpec.upto (s : _root_.Go.ChangeSpec) : _root_.Go.OpenSpec := { _root_.Go.OpenSpec.ofChange s with cond := some uptoSmall }

/-- 'flotillalaw08.StableWhole', WHERE WHAT IT READS IS OF BULK AT MOST 1048576: true; the input reads as it did. -/
def stableWholeUptoRow : OpenClaim := { program := "ytdkahgknoohbpaa", sum := "be81456c1ea3b017be11a942af22d482e7e2b91c7ceb00830bda983769ba7211", func := "flotilla/flotillalaw08.StableWhole", spec := "stableWhole", unfollowed := true, recurses := true, apart := false, narrowed := true }
def StableWholeUptoSaid : Prop := stableWholeUptoRow.holds Try.pinned (OpenSpec.upto stableWholeSpec)

/-- 'flotillalaw08.StableStays', WHERE WHAT IT READS IS OF BULK AT MOST 1048576: true; the input reads as it did. -/
def stableStaysUptoRow : OpenClaim := { program := "ytdkahgknoohbpaa", sum := "be81456c1ea3b017be11a942af22d482e7e2b91c7ceb00830bda983769ba7211", func := "flotilla/flotillalaw08.StableStays", spec := "stableStays", unfollowed := true, recurses := true, apart := false, narrowed := true }
def StableStaysUptoSaid : Prop := stableStaysUptoRow.holds Try.pinned (OpenSpec.upto stableStaysSpec)

/-- 'flotillalaw08.StableApart', WHERE WHAT IT READS IS OF BULK AT MOST 1048576: true; the input reads as it did. -/
def stableApartUptoRow : OpenClaim := { program := "ytdkahgknoohbpaa", sum := "be81456c1ea3b017be11a942af22d482e7e2b91c7ceb00830bda983769ba7211", func := "flotilla/flotillalaw08.StableApart", spec := "stableApart", unfollowed := true, recurses := true, apart := false, narrowed := true }
def StableApartUptoSaid : Prop := stableApartUptoRow.holds Try.pinned (OpenSpec.upto stableApartSpec)

/-- 'flotillalaw08.StableClones', WHERE WHAT IT READS IS OF BULK AT MOST 1048576: true; the input reads as it did. -/
def stableClonesUptoRow : OpenClaim := { program := "ytdkahgknoohbpaa", sum := "be81456c1ea3b017be11a942af22d482e7e2b91c7ceb00830bda983769ba7211", func := "flotilla/flotillalaw08.StableClones", spec := "stableClones", unfollowed := true, recurses := true, apart := false, narrowed := true }
def StableClonesUptoSaid : Prop := stableClonesUptoRow.holds Try.pinned (OpenSpec.upto stableClonesSpec)

/-- 'flotillalaw08.StableNews', WHERE WHAT IT READS IS OF BULK AT MOST 1048576: true; the input reads as it did. -/
def stableNewsUptoRow : OpenClaim := { program := "ytdkahgknoohbpaa", sum := "be81456c1ea3b017be11a942af22d482e7e2b91c7ceb00830bda983769ba7211", func := "flotilla/flotillalaw08.StableNews", spec := "stableNews", unfollowed := true, recurses := true, apart := false, narrowed := true }
def StableNewsUptoSaid : Prop := stableNewsUptoRow.holds Try.pinned (OpenSpec.upto stableNewsSpec)

end Rows
end Go.Proofs.Ytdkahgknoohbpaa
