/-
  No cell of these rows narrows 'for every input' (looked for: loops, veiled, ifaces, maps, wideKeys, modest, calm, conditions, laid).
  DERIVED. THE GIVEN ROWS OF THIS SEAT. 3 by the template 'for every input the law returns true; each argument reads behind the call as it read before'; 0 by the template 'total and deterministic' (their statements: YtakifgecgmdjcaaGreatTotals.lean).
  GIVEN WITH THE SEED: the statements are not yours to turn. If you find one false, say at which input.
  Laid BY PROGRAM, IN A SANDBOX (cutbox-rows.mjs): the forced cells as the released guide's own fill.sh prints them over the translation d9c58a0f1e13db73… (all of the seat's roots in one cut). By AI agents, Wed Nov 11 2026. No macro, syntax, notation, axiom, sorry.
-/
import Derived.Test.YtakifgecgmdjcaaGreatChecked
import GoSem.Claim
import GoSem.ClaimJoined
import GoSem.ClaimMapViews
import Derived.JoinedTies
import Derived.KernelRfl
namespace Go.Proofs.YtakifgecgmdjcaaGreat
/- THE CELL 'sum', in the pinned program and in every row, IS THE sha256 OF THE DUMP (.gsa) THAT YtakifgecgmdjcaaGreatProg.lean LOADS. Nothing in Lean hashes anything: it is a label: what it is worth is what the hold of that sum in a sandbox is worth. -/
noncomputable def Tryz.pinned : Pinned := { name := "ytakifgecgmdjcaagreat", sum := "d9c58a0f1e13db73b8f348b577a0e8b1941b3873b55b984bf1031fde3ec09a7c", checked := Tryz.checked }
namespace Rows
def none {H : Type} : Left H := { results := [], args := [] }

/-- 'flotillalaw13.LockPlays': WHATEVER THE INPUT: true; the input reads as it did. -/
def lockPlaysSpec : ChangeSpec := { name := "lockPlays", fn := fun _ => fun
  | [d] => { results := [.lit (.bool true)], args := [d] }
  | _ => none }
def lockPlaysRow : OpenClaim := { program := "ytakifgecgmdjcaagreat", sum := "d9c58a0f1e13db73b8f348b577a0e8b1941b3873b55b984bf1031fde3ec09a7c", func := "flotilla/flotillalaw13.LockPlays", spec := "lockPlays", unfollowed := true, recurses := true, plainKeys := false, apart := false }
def LockPlaysSaid : Prop := lockPlaysRow.holds Tryz.pinned (OpenSpec.ofChange lockPlaysSpec)

/-- ITS FALSE NEIGHBOUR: 'it returns false'. Refute it at one input. -/
def lockPlaysWrong : ChangeSpec := { name := "lockPlays", fn := fun _ => fun
  | [d] => { results := [.lit (.bool false)], args := [d] }
  | _ => none }
def LockPlaysWrongFalsely : Prop := lockPlaysRow.holds Tryz.pinned (OpenSpec.ofChange lockPlaysWrong)

/-- 'flotillalaw13.LockEnds': WHATEVER THE INPUT: true; the input reads as it did. -/
def lockEndsSpec : ChangeSpec := { name := "lockEnds", fn := fun _ => fun
  | [d] => { results := [.lit (.bool true)], args := [d] }
  | _ => none }
def lockEndsRow : OpenClaim := { program := "ytakifgecgmdjcaagreat", sum := "d9c58a0f1e13db73b8f348b577a0e8b1941b3873b55b984bf1031fde3ec09a7c", func := "flotilla/flotillalaw13.LockEnds", spec := "lockEnds", unfollowed := true, recurses := true, plainKeys := false, apart := false }
def LockEndsSaid : Prop := lockEndsRow.holds Tryz.pinned (OpenSpec.ofChange lockEndsSpec)

/-- ITS FALSE NEIGHBOUR: 'it returns false'. Refute it at one input. -/
def lockEndsWrong : ChangeSpec := { name := "lockEnds", fn := fun _ => fun
  | [d] => { results := [.lit (.bool false)], args := [d] }
  | _ => none }
def LockEndsWrongFalsely : Prop := lockEndsRow.holds Tryz.pinned (OpenSpec.ofChange lockEndsWrong)

/-- 'flotillalaw13.LockNils': WHATEVER THE INPUT: true; the input reads as it did. -/
def lockNilsSpec : ChangeSpec := { name := "lockNils", fn := fun _ => fun
  | [d1, d2] => { results := [.lit (.bool true)], args := [d1, d2] }
  | _ => none }
def lockNilsRow : OpenClaim := { program := "ytakifgecgmdjcaagreat", sum := "d9c58a0f1e13db73b8f348b577a0e8b1941b3873b55b984bf1031fde3ec09a7c", func := "flotilla/flotillalaw13.LockNils", spec := "lockNils", unfollowed := true, recurses := true, plainKeys := false, apart := false }
def LockNilsSaid : Prop := lockNilsRow.holds Tryz.pinned (OpenSpec.ofChange lockNilsSpec)

/-- ITS FALSE NEIGHBOUR: 'it returns false'. Refute it at one input. -/
def lockNilsWrong : ChangeSpec := { name := "lockNils", fn := fun _ => fun
  | [d1, d2] => { results := [.lit (.bool false)], args := [d1, d2] }
  | _ => none }
def LockNilsWrongFalsely : Prop := lockNilsRow.holds Tryz.pinned (OpenSpec.ofChange lockNilsWrong)

/- THE SECOND FORM. 'bulk': how many values and letters a reading holds, each counted each time it is reached (what is shared counts as often as it is met; a slice's spare places count too). A statement '..UptoSaid' is the law's where the arguments, and the package variables that the reading takes, are together of bulk at most 1048576: NARROWER than '..Said'. Prove '..Said' where nothing that the law and all that it calls make is longer than what came in: it says more and counts as full. Else prove '..UptoSaid'. A law counts once. -/
mutual
def uptoBulk {H : Type} : DataW H → Nat
  | .lit (.string bytes) => bytes.length + 1
  | .lit _ => 1
  | .nil => 1
  | .ptr d => uptoBulk d + 1
  | .slice elems spare => uptoBulkAll elems + uptoBulkAll spare + 1
  | .agg parts => uptoBulkAll parts + 1
  | .iface _ d => uptoBulk d + 1
  | .map entries => uptoBulkEntries entries + 1
  | .held _ => 1
def uptoBulkAll {H : Type} : List (DataW H) → Nat
  | [] => 0
  | d :: r => uptoBulk d + uptoBulkAll r
def uptoBulkEntries {H : Type} : List (Lit × DataW H) → Nat
  | [] => 0
  | x :: r => uptoBulkEntry x + uptoBulkEntries r
def uptoBulkEntry {H : Type} : Lit × DataW H → Nat
  | (.string bytes, d) => bytes.length + uptoBulk d + 1
  | (_, d) => uptoBulk d + 1
 end
def uptoSmall : (H : Type) → List (DataW H) → Bool := fun _ ds => decide (uptoBulkAll ds ≤ 1048576)
def OpenSpec.upto (s : _root_.Go.ChangeSpec) : _root_.Go.OpenSpec := { _root_.Go.OpenSpec.ofChange s with cond := some uptoSmall }

/-- 'flotillalaw13.LockPlays', WHERE WHAT IT READS IS OF BULK AT MOST 1048576: true; the input reads as it did. -/
def lockPlaysUptoRow : OpenClaim := { program := "ytakifgecgmdjcaagreat", sum := "d9c58a0f1e13db73b8f348b577a0e8b1941b3873b55b984bf1031fde3ec09a7c", func := "flotilla/flotillalaw13.LockPlays", spec := "lockPlays", unfollowed := true, recurses := true, plainKeys := false, apart := false, narrowed := true }
def LockPlaysUptoSaid : Prop := lockPlaysUptoRow.holds Tryz.pinned (OpenSpec.upto lockPlaysSpec)

/-- 'flotillalaw13.LockEnds', WHERE WHAT IT READS IS OF BULK AT MOST 1048576: true; the input reads as it did. -/
def lockEndsUptoRow : OpenClaim := { program := "ytakifgecgmdjcaagreat", sum := "d9c58a0f1e13db73b8f348b577a0e8b1941b3873b55b984bf1031fde3ec09a7c", func := "flotilla/flotillalaw13.LockEnds", spec := "lockEnds", unfollowed := true, recurses := true, plainKeys := false, apart := false, narrowed := true }
def LockEndsUptoSaid : Prop := lockEndsUptoRow.holds Tryz.pinned (OpenSpec.upto lockEndsSpec)

/-- 'flotillalaw13.LockNils', WHERE WHAT IT READS IS OF BULK AT MOST 1048576: true; the input reads as it did. -/
def lockNilsUptoRow : OpenClaim := { program := "ytakifgecgmdjcaagreat", sum := "d9c58a0f1e13db73b8f348b577a0e8b1941b3873b55b984bf1031fde3ec09a7c", func := "flotilla/flotillalaw13.LockNils", spec := "lockNils", unfollowed := true, recurses := true, plainKeys := false, apart := false, narrowed := true }
def LockNilsUptoSaid : Prop := lockNilsUptoRow.holds Tryz.pinned (OpenSpec.upto lockNilsSpec)

end Rows
end Go.Proofs.YtakifgecgmdjcaaGreat
