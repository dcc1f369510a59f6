/- Texts of this work, put together: F, Mode, O, Q, V, Mp, LkA, LkB, LkC, Sy, LkS. -/
import Derived.Test.YtakifgecgmdjcaaGreatUP2
import Derived.Test.YtakifgecgmdjcaaGreatProg
import Derived.KernelRfl
import Derived.Deep.Slices
import Derived.OpenShut
import Derived.Deep.Fields
import Derived.ChangeSame
import Derived.ChangeArms
import Derived.Lib.SmallJoins
import Derived.Maps.RangeRun
import Derived.Laws.CopyRow
import Derived.Shelf.SlIter.Nil
import Derived.Shelf.SlIterI.Nil
import Derived.Shelf.SortM.Plain
import Derived.Shelf.SortM.SortNone
import Derived.Ground.GgzProg
import Derived.Ground.SlgmProg
/- Closed facts about the types of the program, and the rules for the steps at these types. Written by a program of this work. -/
namespace Go.Proofs.YtakifgecgmdjcaaGreat
open Go Xf
set_option linter.unusedVariables false
set_option maxRecDepth 100000

-- 2: int64
theorem u2 : Tryz.prog.underlying 2 = some (.int .i64) := by kernel_rfl
theorem ag2 : (Tryz.prog.underlying 2).map isAggD = some false := by kernel_rfl
theorem sz2 : (Tryz.prog.info? 2).map (·.size) = some 1 := by kernel_rfl
theorem ze2 : (Tryz.prog.info? 2).bind (·.zero) = some (.int .i64 0) := by kernel_rfl
theorem inf2 : ∃ i, Tryz.prog.info? 2 = some i ∧ i.zero = some (.int .i64 0) ∧ i.size = 1 ∧ i.bytes = 8 := info_parts (by kernel_rfl : (Tryz.prog.info? 2).map (fun i => (i.zero, i.size, i.bytes)) = some (some (.int .i64 0), 1, 8))
-- 3: int
theorem u3 : Tryz.prog.underlying 3 = some (.int .i64) := by kernel_rfl
theorem ag3 : (Tryz.prog.underlying 3).map isAggD = some false := by kernel_rfl
theorem sz3 : (Tryz.prog.info? 3).map (·.size) = some 1 := by kernel_rfl
theorem ze3 : (Tryz.prog.info? 3).bind (·.zero) = some (.int .i64 0) := by kernel_rfl
theorem inf3 : ∃ i, Tryz.prog.info? 3 = some i ∧ i.zero = some (.int .i64 0) ∧ i.size = 1 ∧ i.bytes = 8 := info_parts (by kernel_rfl : (Tryz.prog.info? 3).map (fun i => (i.zero, i.size, i.bytes)) = some (some (.int .i64 0), 1, 8))
-- 4: bool
theorem u4 : Tryz.prog.underlying 4 = some (.bool) := by kernel_rfl
theorem ag4 : (Tryz.prog.underlying 4).map isAggD = some false := by kernel_rfl
theorem sz4 : (Tryz.prog.info? 4).map (·.size) = some 1 := by kernel_rfl
theorem ze4 : (Tryz.prog.info? 4).bind (·.zero) = some (.bool false) := by kernel_rfl
theorem inf4 : ∃ i, Tryz.prog.info? 4 = some i ∧ i.zero = some (.bool false) ∧ i.size = 1 ∧ i.bytes = 1 := info_parts (by kernel_rfl : (Tryz.prog.info? 4).map (fun i => (i.zero, i.size, i.bytes)) = some (some (.bool false), 1, 1))
-- 5: uint8
theorem u5 : Tryz.prog.underlying 5 = some (.int .u8) := by kernel_rfl
theorem ag5 : (Tryz.prog.underlying 5).map isAggD = some false := by kernel_rfl
theorem sz5 : (Tryz.prog.info? 5).map (·.size) = some 1 := by kernel_rfl
theorem ze5 : (Tryz.prog.info? 5).bind (·.zero) = some (.int .u8 0) := by kernel_rfl
theorem inf5 : ∃ i, Tryz.prog.info? 5 = some i ∧ i.zero = some (.int .u8 0) ∧ i.size = 1 ∧ i.bytes = 1 := info_parts (by kernel_rfl : (Tryz.prog.info? 5).map (fun i => (i.zero, i.size, i.bytes)) = some (some (.int .u8 0), 1, 1))
-- 6: abi.BoundsErrorCode
theorem u6 : Tryz.prog.underlying 6 = some (.int .u8) := by kernel_rfl
theorem ag6 : (Tryz.prog.underlying 6).map isAggD = some false := by kernel_rfl
theorem sz6 : (Tryz.prog.info? 6).map (·.size) = some 1 := by kernel_rfl
theorem ze6 : (Tryz.prog.info? 6).bind (·.zero) = some (.int .u8 0) := by kernel_rfl
theorem inf6 : ∃ i, Tryz.prog.info? 6 = some i ∧ i.zero = some (.int .u8 0) ∧ i.size = 1 ∧ i.bytes = 1 := info_parts (by kernel_rfl : (Tryz.prog.info? 6).map (fun i => (i.zero, i.size, i.bytes)) = some (some (.int .u8 0), 1, 1))
-- 7: struct { x int64; y int; signed bool; code abi.BoundsErrorCode }
theorem ag7 : (Tryz.prog.underlying 7).map isAggD = some true := by kernel_rfl
theorem sz7 : (Tryz.prog.info? 7).map (·.size) = some 4 := by kernel_rfl
theorem ze7 : (Tryz.prog.info? 7).bind (·.zero) = some (.agg #[.int .i64 0, .int .i64 0, .bool false, .int .u8 0]) := by kernel_rfl
theorem inf7 : ∃ i, Tryz.prog.info? 7 = some i ∧ i.zero = some (.agg #[.int .i64 0, .int .i64 0, .bool false, .int .u8 0]) ∧ i.size = 4 ∧ i.bytes = 24 := info_parts (by kernel_rfl : (Tryz.prog.info? 7).map (fun i => (i.zero, i.size, i.bytes)) = some (some (.agg #[.int .i64 0, .int .i64 0, .bool false, .int .u8 0]), 4, 24))
-- 8: runtime.boundsError
theorem ag8 : (Tryz.prog.underlying 8).map isAggD = some true := by kernel_rfl
theorem sz8 : (Tryz.prog.info? 8).map (·.size) = some 4 := by kernel_rfl
theorem ze8 : (Tryz.prog.info? 8).bind (·.zero) = some (.agg #[.int .i64 0, .int .i64 0, .bool false, .int .u8 0]) := by kernel_rfl
theorem inf8 : ∃ i, Tryz.prog.info? 8 = some i ∧ i.zero = some (.agg #[.int .i64 0, .int .i64 0, .bool false, .int .u8 0]) ∧ i.size = 4 ∧ i.bytes = 24 := info_parts (by kernel_rfl : (Tryz.prog.info? 8).map (fun i => (i.zero, i.size, i.bytes)) = some (some (.agg #[.int .i64 0, .int .i64 0, .bool false, .int .u8 0]), 4, 24))
-- 9: string
theorem u9 : Tryz.prog.underlying 9 = some (.string) := by kernel_rfl
theorem ag9 : (Tryz.prog.underlying 9).map isAggD = some false := by kernel_rfl
theorem sz9 : (Tryz.prog.info? 9).map (·.size) = some 1 := by kernel_rfl
theorem ze9 : (Tryz.prog.info? 9).bind (·.zero) = some (.string ⟨#[]⟩) := by kernel_rfl
theorem inf9 : ∃ i, Tryz.prog.info? 9 = some i ∧ i.zero = some (.string ⟨#[]⟩) ∧ i.size = 1 ∧ i.bytes = 16 := info_parts (by kernel_rfl : (Tryz.prog.info? 9).map (fun i => (i.zero, i.size, i.bytes)) = some (some (.string ⟨#[]⟩), 1, 16))
-- 10: runtime.errorString
theorem u10 : Tryz.prog.underlying 10 = some (.string) := by kernel_rfl
theorem ag10 : (Tryz.prog.underlying 10).map isAggD = some false := by kernel_rfl
theorem sz10 : (Tryz.prog.info? 10).map (·.size) = some 1 := by kernel_rfl
theorem ze10 : (Tryz.prog.info? 10).bind (·.zero) = some (.string ⟨#[]⟩) := by kernel_rfl
theorem inf10 : ∃ i, Tryz.prog.info? 10 = some i ∧ i.zero = some (.string ⟨#[]⟩) ∧ i.size = 1 ∧ i.bytes = 16 := info_parts (by kernel_rfl : (Tryz.prog.info? 10).map (fun i => (i.zero, i.size, i.bytes)) = some (some (.string ⟨#[]⟩), 1, 16))
-- 11: runtime.plainError
theorem u11 : Tryz.prog.underlying 11 = some (.string) := by kernel_rfl
theorem ag11 : (Tryz.prog.underlying 11).map isAggD = some false := by kernel_rfl
theorem sz11 : (Tryz.prog.info? 11).map (·.size) = some 1 := by kernel_rfl
theorem ze11 : (Tryz.prog.info? 11).bind (·.zero) = some (.string ⟨#[]⟩) := by kernel_rfl
theorem inf11 : ∃ i, Tryz.prog.info? 11 = some i ∧ i.zero = some (.string ⟨#[]⟩) ∧ i.size = 1 ∧ i.bytes = 16 := info_parts (by kernel_rfl : (Tryz.prog.info? 11).map (fun i => (i.zero, i.size, i.bytes)) = some (some (.string ⟨#[]⟩), 1, 16))
-- 12: uintptr
theorem u12 : Tryz.prog.underlying 12 = some (.int .u64) := by kernel_rfl
theorem ag12 : (Tryz.prog.underlying 12).map isAggD = some false := by kernel_rfl
theorem sz12 : (Tryz.prog.info? 12).map (·.size) = some 1 := by kernel_rfl
theorem ze12 : (Tryz.prog.info? 12).bind (·.zero) = some (.int .u64 0) := by kernel_rfl
theorem inf12 : ∃ i, Tryz.prog.info? 12 = some i ∧ i.zero = some (.int .u64 0) ∧ i.size = 1 ∧ i.bytes = 8 := info_parts (by kernel_rfl : (Tryz.prog.info? 12).map (fun i => (i.zero, i.size, i.bytes)) = some (some (.int .u64 0), 1, 8))
-- 13: struct { msg string; addr uintptr }
theorem ag13 : (Tryz.prog.underlying 13).map isAggD = some true := by kernel_rfl
theorem sz13 : (Tryz.prog.info? 13).map (·.size) = some 2 := by kernel_rfl
theorem ze13 : (Tryz.prog.info? 13).bind (·.zero) = some (.agg #[.string ⟨#[]⟩, .int .u64 0]) := by kernel_rfl
theorem inf13 : ∃ i, Tryz.prog.info? 13 = some i ∧ i.zero = some (.agg #[.string ⟨#[]⟩, .int .u64 0]) ∧ i.size = 2 ∧ i.bytes = 24 := info_parts (by kernel_rfl : (Tryz.prog.info? 13).map (fun i => (i.zero, i.size, i.bytes)) = some (some (.agg #[.string ⟨#[]⟩, .int .u64 0]), 2, 24))
-- 14: runtime.errorAddressString
theorem ag14 : (Tryz.prog.underlying 14).map isAggD = some true := by kernel_rfl
theorem sz14 : (Tryz.prog.info? 14).map (·.size) = some 2 := by kernel_rfl
theorem ze14 : (Tryz.prog.info? 14).bind (·.zero) = some (.agg #[.string ⟨#[]⟩, .int .u64 0]) := by kernel_rfl
theorem inf14 : ∃ i, Tryz.prog.info? 14 = some i ∧ i.zero = some (.agg #[.string ⟨#[]⟩, .int .u64 0]) ∧ i.size = 2 ∧ i.bytes = 24 := info_parts (by kernel_rfl : (Tryz.prog.info? 14).map (fun i => (i.zero, i.size, i.bytes)) = some (some (.agg #[.string ⟨#[]⟩, .int .u64 0]), 2, 24))
-- 15: *runtime.TypeAssertionError
theorem u15 : Tryz.prog.underlying 15 = some (.pointer 187) := by kernel_rfl
theorem ag15 : (Tryz.prog.underlying 15).map isAggD = some false := by kernel_rfl
theorem sz15 : (Tryz.prog.info? 15).map (·.size) = some 1 := by kernel_rfl
theorem ze15 : (Tryz.prog.info? 15).bind (·.zero) = some (.pointer none) := by kernel_rfl
theorem inf15 : ∃ i, Tryz.prog.info? 15 = some i ∧ i.zero = some (.pointer none) ∧ i.size = 1 ∧ i.bytes = 8 := info_parts (by kernel_rfl : (Tryz.prog.info? 15).map (fun i => (i.zero, i.size, i.bytes)) = some (some (.pointer none), 1, 8))
-- 16: *runtime.PanicNilError
theorem u16 : Tryz.prog.underlying 16 = some (.pointer 190) := by kernel_rfl
theorem ag16 : (Tryz.prog.underlying 16).map isAggD = some false := by kernel_rfl
theorem sz16 : (Tryz.prog.info? 16).map (·.size) = some 1 := by kernel_rfl
theorem ze16 : (Tryz.prog.info? 16).bind (·.zero) = some (.pointer none) := by kernel_rfl
theorem inf16 : ∃ i, Tryz.prog.info? 16 = some i ∧ i.zero = some (.pointer none) ∧ i.size = 1 ∧ i.bytes = 8 := info_parts (by kernel_rfl : (Tryz.prog.info? 16).map (fun i => (i.zero, i.size, i.bytes)) = some (some (.pointer none), 1, 8))
-- 17: *abi.Type
theorem u17 : Tryz.prog.underlying 17 = some (.pointer 198) := by kernel_rfl
theorem ag17 : (Tryz.prog.underlying 17).map isAggD = some false := by kernel_rfl
theorem sz17 : (Tryz.prog.info? 17).map (·.size) = some 1 := by kernel_rfl
theorem ze17 : (Tryz.prog.info? 17).bind (·.zero) = some (.pointer none) := by kernel_rfl
theorem inf17 : ∃ i, Tryz.prog.info? 17 = some i ∧ i.zero = some (.pointer none) ∧ i.size = 1 ∧ i.bytes = 8 := info_parts (by kernel_rfl : (Tryz.prog.info? 17).map (fun i => (i.zero, i.size, i.bytes)) = some (some (.pointer none), 1, 8))
-- 18: struct { typ *abi.Type }
theorem ag18 : (Tryz.prog.underlying 18).map isAggD = some true := by kernel_rfl
theorem sz18 : (Tryz.prog.info? 18).map (·.size) = some 1 := by kernel_rfl
theorem ze18 : (Tryz.prog.info? 18).bind (·.zero) = some (.agg #[.pointer none]) := by kernel_rfl
theorem inf18 : ∃ i, Tryz.prog.info? 18 = some i ∧ i.zero = some (.agg #[.pointer none]) ∧ i.size = 1 ∧ i.bytes = 8 := info_parts (by kernel_rfl : (Tryz.prog.info? 18).map (fun i => (i.zero, i.size, i.bytes)) = some (some (.agg #[.pointer none]), 1, 8))
-- 19: maps.unhashableTypeError
theorem ag19 : (Tryz.prog.underlying 19).map isAggD = some true := by kernel_rfl
theorem sz19 : (Tryz.prog.info? 19).map (·.size) = some 1 := by kernel_rfl
theorem ze19 : (Tryz.prog.info? 19).bind (·.zero) = some (.agg #[.pointer none]) := by kernel_rfl
theorem inf19 : ∃ i, Tryz.prog.info? 19 = some i ∧ i.zero = some (.agg #[.pointer none]) ∧ i.size = 1 ∧ i.bytes = 8 := info_parts (by kernel_rfl : (Tryz.prog.info? 19).map (fun i => (i.zero, i.size, i.bytes)) = some (some (.agg #[.pointer none]), 1, 8))
-- 21: int32
theorem u21 : Tryz.prog.underlying 21 = some (.int .i32) := by kernel_rfl
theorem ag21 : (Tryz.prog.underlying 21).map isAggD = some false := by kernel_rfl
theorem sz21 : (Tryz.prog.info? 21).map (·.size) = some 1 := by kernel_rfl
theorem ze21 : (Tryz.prog.info? 21).bind (·.zero) = some (.int .i32 0) := by kernel_rfl
theorem inf21 : ∃ i, Tryz.prog.info? 21 = some i ∧ i.zero = some (.int .i32 0) ∧ i.size = 1 ∧ i.bytes = 4 := info_parts (by kernel_rfl : (Tryz.prog.info? 21).map (fun i => (i.zero, i.size, i.bytes)) = some (some (.int .i32 0), 1, 4))
-- 22: []flotillalaw13.Op
theorem u22 : Tryz.prog.underlying 22 = some (.slice 33) := by kernel_rfl
theorem ag22 : (Tryz.prog.underlying 22).map isAggD = some false := by kernel_rfl
theorem sz22 : (Tryz.prog.info? 22).map (·.size) = some 1 := by kernel_rfl
theorem ze22 : (Tryz.prog.info? 22).bind (·.zero) = some (.slice none 0 0) := by kernel_rfl
theorem inf22 : ∃ i, Tryz.prog.info? 22 = some i ∧ i.zero = some (.slice none 0 0) ∧ i.size = 1 ∧ i.bytes = 24 := info_parts (by kernel_rfl : (Tryz.prog.info? 22).map (fun i => (i.zero, i.size, i.bytes)) = some (some (.slice none 0 0), 1, 24))
-- 23: *lock.Table
theorem u23 : Tryz.prog.underlying 23 = some (.pointer 67) := by kernel_rfl
theorem ag23 : (Tryz.prog.underlying 23).map isAggD = some false := by kernel_rfl
theorem sz23 : (Tryz.prog.info? 23).map (·.size) = some 1 := by kernel_rfl
theorem ze23 : (Tryz.prog.info? 23).bind (·.zero) = some (.pointer none) := by kernel_rfl
theorem inf23 : ∃ i, Tryz.prog.info? 23 = some i ∧ i.zero = some (.pointer none) ∧ i.size = 1 ∧ i.bytes = 8 := info_parts (by kernel_rfl : (Tryz.prog.info? 23).map (fun i => (i.zero, i.size, i.bytes)) = some (some (.pointer none), 1, 8))
-- 25: []flotillaref13.Row
theorem u25 : Tryz.prog.underlying 25 = some (.slice 85) := by kernel_rfl
theorem ag25 : (Tryz.prog.underlying 25).map isAggD = some false := by kernel_rfl
theorem sz25 : (Tryz.prog.info? 25).map (·.size) = some 1 := by kernel_rfl
theorem ze25 : (Tryz.prog.info? 25).bind (·.zero) = some (.slice none 0 0) := by kernel_rfl
theorem inf25 : ∃ i, Tryz.prog.info? 25 = some i ∧ i.zero = some (.slice none 0 0) ∧ i.size = 1 ∧ i.bytes = 24 := info_parts (by kernel_rfl : (Tryz.prog.info? 25).map (fun i => (i.zero, i.size, i.bytes)) = some (some (.slice none 0 0), 1, 24))
-- 26: struct { Has []flotillaref13.Row; Waits []flotillaref13.Row }
theorem ag26 : (Tryz.prog.underlying 26).map isAggD = some true := by kernel_rfl
theorem sz26 : (Tryz.prog.info? 26).map (·.size) = some 2 := by kernel_rfl
theorem ze26 : (Tryz.prog.info? 26).bind (·.zero) = some (.agg #[.slice none 0 0, .slice none 0 0]) := by kernel_rfl
theorem inf26 : ∃ i, Tryz.prog.info? 26 = some i ∧ i.zero = some (.agg #[.slice none 0 0, .slice none 0 0]) ∧ i.size = 2 ∧ i.bytes = 48 := info_parts (by kernel_rfl : (Tryz.prog.info? 26).map (fun i => (i.zero, i.size, i.bytes)) = some (some (.agg #[.slice none 0 0, .slice none 0 0]), 2, 48))
-- 27: flotillaref13.Table
theorem ag27 : (Tryz.prog.underlying 27).map isAggD = some true := by kernel_rfl
theorem sz27 : (Tryz.prog.info? 27).map (·.size) = some 2 := by kernel_rfl
theorem ze27 : (Tryz.prog.info? 27).bind (·.zero) = some (.agg #[.slice none 0 0, .slice none 0 0]) := by kernel_rfl
theorem inf27 : ∃ i, Tryz.prog.info? 27 = some i ∧ i.zero = some (.agg #[.slice none 0 0, .slice none 0 0]) ∧ i.size = 2 ∧ i.bytes = 48 := info_parts (by kernel_rfl : (Tryz.prog.info? 27).map (fun i => (i.zero, i.size, i.bytes)) = some (some (.agg #[.slice none 0 0, .slice none 0 0]), 2, 48))
-- 29: api.Mode
theorem u29 : Tryz.prog.underlying 29 = some (.int .i64) := by kernel_rfl
theorem ag29 : (Tryz.prog.underlying 29).map isAggD = some false := by kernel_rfl
theorem sz29 : (Tryz.prog.info? 29).map (·.size) = some 1 := by kernel_rfl
theorem ze29 : (Tryz.prog.info? 29).bind (·.zero) = some (.int .i64 0) := by kernel_rfl
theorem inf29 : ∃ i, Tryz.prog.info? 29 = some i ∧ i.zero = some (.int .i64 0) ∧ i.size = 1 ∧ i.bytes = 8 := info_parts (by kernel_rfl : (Tryz.prog.info? 29).map (fun i => (i.zero, i.size, i.bytes)) = some (some (.int .i64 0), 1, 8))
-- 30: struct { Name string; Mode api.Mode }
theorem ag30 : (Tryz.prog.underlying 30).map isAggD = some true := by kernel_rfl
theorem sz30 : (Tryz.prog.info? 30).map (·.size) = some 2 := by kernel_rfl
theorem ze30 : (Tryz.prog.info? 30).bind (·.zero) = some (.agg #[.string ⟨#[]⟩, .int .i64 0]) := by kernel_rfl
theorem inf30 : ∃ i, Tryz.prog.info? 30 = some i ∧ i.zero = some (.agg #[.string ⟨#[]⟩, .int .i64 0]) ∧ i.size = 2 ∧ i.bytes = 24 := info_parts (by kernel_rfl : (Tryz.prog.info? 30).map (fun i => (i.zero, i.size, i.bytes)) = some (some (.agg #[.string ⟨#[]⟩, .int .i64 0]), 2, 24))
-- 31: api.Want
theorem ag31 : (Tryz.prog.underlying 31).map isAggD = some true := by kernel_rfl
theorem sz31 : (Tryz.prog.info? 31).map (·.size) = some 2 := by kernel_rfl
theorem ze31 : (Tryz.prog.info? 31).bind (·.zero) = some (.agg #[.string ⟨#[]⟩, .int .i64 0]) := by kernel_rfl
theorem inf31 : ∃ i, Tryz.prog.info? 31 = some i ∧ i.zero = some (.agg #[.string ⟨#[]⟩, .int .i64 0]) ∧ i.size = 2 ∧ i.bytes = 24 := info_parts (by kernel_rfl : (Tryz.prog.info? 31).map (fun i => (i.zero, i.size, i.bytes)) = some (some (.agg #[.string ⟨#[]⟩, .int .i64 0]), 2, 24))
-- 32: struct { Kind int; Txn int; W api.Want }
theorem ag32 : (Tryz.prog.underlying 32).map isAggD = some true := by kernel_rfl
theorem sz32 : (Tryz.prog.info? 32).map (·.size) = some 4 := by kernel_rfl
theorem ze32 : (Tryz.prog.info? 32).bind (·.zero) = some (.agg #[.int .i64 0, .int .i64 0, .string ⟨#[]⟩, .int .i64 0]) := by kernel_rfl
theorem inf32 : ∃ i, Tryz.prog.info? 32 = some i ∧ i.zero = some (.agg #[.int .i64 0, .int .i64 0, .string ⟨#[]⟩, .int .i64 0]) ∧ i.size = 4 ∧ i.bytes = 40 := info_parts (by kernel_rfl : (Tryz.prog.info? 32).map (fun i => (i.zero, i.size, i.bytes)) = some (some (.agg #[.int .i64 0, .int .i64 0, .string ⟨#[]⟩, .int .i64 0]), 4, 40))
-- 33: flotillalaw13.Op
theorem ag33 : (Tryz.prog.underlying 33).map isAggD = some true := by kernel_rfl
theorem sz33 : (Tryz.prog.info? 33).map (·.size) = some 4 := by kernel_rfl
theorem ze33 : (Tryz.prog.info? 33).bind (·.zero) = some (.agg #[.int .i64 0, .int .i64 0, .string ⟨#[]⟩, .int .i64 0]) := by kernel_rfl
theorem inf33 : ∃ i, Tryz.prog.info? 33 = some i ∧ i.zero = some (.agg #[.int .i64 0, .int .i64 0, .string ⟨#[]⟩, .int .i64 0]) ∧ i.size = 4 ∧ i.bytes = 40 := info_parts (by kernel_rfl : (Tryz.prog.info? 33).map (fun i => (i.zero, i.size, i.bytes)) = some (some (.agg #[.int .i64 0, .int .i64 0, .string ⟨#[]⟩, .int .i64 0]), 4, 40))
-- 39: []api.Edge
theorem u39 : Tryz.prog.underlying 39 = some (.slice 78) := by kernel_rfl
theorem ag39 : (Tryz.prog.underlying 39).map isAggD = some false := by kernel_rfl
theorem sz39 : (Tryz.prog.info? 39).map (·.size) = some 1 := by kernel_rfl
theorem ze39 : (Tryz.prog.info? 39).bind (·.zero) = some (.slice none 0 0) := by kernel_rfl
theorem inf39 : ∃ i, Tryz.prog.info? 39 = some i ∧ i.zero = some (.slice none 0 0) ∧ i.size = 1 ∧ i.bytes = 24 := info_parts (by kernel_rfl : (Tryz.prog.info? 39).map (fun i => (i.zero, i.size, i.bytes)) = some (some (.slice none 0 0), 1, 24))
-- 44: []int
theorem u44 : Tryz.prog.underlying 44 = some (.slice 3) := by kernel_rfl
theorem ag44 : (Tryz.prog.underlying 44).map isAggD = some false := by kernel_rfl
theorem sz44 : (Tryz.prog.info? 44).map (·.size) = some 1 := by kernel_rfl
theorem ze44 : (Tryz.prog.info? 44).bind (·.zero) = some (.slice none 0 0) := by kernel_rfl
theorem inf44 : ∃ i, Tryz.prog.info? 44 = some i ∧ i.zero = some (.slice none 0 0) ∧ i.size = 1 ∧ i.bytes = 24 := info_parts (by kernel_rfl : (Tryz.prog.info? 44).map (fun i => (i.zero, i.size, i.bytes)) = some (some (.slice none 0 0), 1, 24))
-- 50: []lock.Grant
theorem u50 : Tryz.prog.underlying 50 = some (.slice 53) := by kernel_rfl
theorem ag50 : (Tryz.prog.underlying 50).map isAggD = some false := by kernel_rfl
theorem sz50 : (Tryz.prog.info? 50).map (·.size) = some 1 := by kernel_rfl
theorem ze50 : (Tryz.prog.info? 50).bind (·.zero) = some (.slice none 0 0) := by kernel_rfl
theorem inf50 : ∃ i, Tryz.prog.info? 50 = some i ∧ i.zero = some (.slice none 0 0) ∧ i.size = 1 ∧ i.bytes = 24 := info_parts (by kernel_rfl : (Tryz.prog.info? 50).map (fun i => (i.zero, i.size, i.bytes)) = some (some (.slice none 0 0), 1, 24))
-- 52: struct { Txn int; Want api.Want }
theorem ag52 : (Tryz.prog.underlying 52).map isAggD = some true := by kernel_rfl
theorem sz52 : (Tryz.prog.info? 52).map (·.size) = some 3 := by kernel_rfl
theorem ze52 : (Tryz.prog.info? 52).bind (·.zero) = some (.agg #[.int .i64 0, .string ⟨#[]⟩, .int .i64 0]) := by kernel_rfl
theorem inf52 : ∃ i, Tryz.prog.info? 52 = some i ∧ i.zero = some (.agg #[.int .i64 0, .string ⟨#[]⟩, .int .i64 0]) ∧ i.size = 3 ∧ i.bytes = 32 := info_parts (by kernel_rfl : (Tryz.prog.info? 52).map (fun i => (i.zero, i.size, i.bytes)) = some (some (.agg #[.int .i64 0, .string ⟨#[]⟩, .int .i64 0]), 3, 32))
-- 53: lock.Grant
theorem ag53 : (Tryz.prog.underlying 53).map isAggD = some true := by kernel_rfl
theorem sz53 : (Tryz.prog.info? 53).map (·.size) = some 3 := by kernel_rfl
theorem ze53 : (Tryz.prog.info? 53).bind (·.zero) = some (.agg #[.int .i64 0, .string ⟨#[]⟩, .int .i64 0]) := by kernel_rfl
theorem inf53 : ∃ i, Tryz.prog.info? 53 = some i ∧ i.zero = some (.agg #[.int .i64 0, .string ⟨#[]⟩, .int .i64 0]) ∧ i.size = 3 ∧ i.bytes = 32 := info_parts (by kernel_rfl : (Tryz.prog.info? 53).map (fun i => (i.zero, i.size, i.bytes)) = some (some (.agg #[.int .i64 0, .string ⟨#[]⟩, .int .i64 0]), 3, 32))
-- 56: api.Errno
theorem u56 : Tryz.prog.underlying 56 = some (.int .i64) := by kernel_rfl
theorem ag56 : (Tryz.prog.underlying 56).map isAggD = some false := by kernel_rfl
theorem sz56 : (Tryz.prog.info? 56).map (·.size) = some 1 := by kernel_rfl
theorem ze56 : (Tryz.prog.info? 56).bind (·.zero) = some (.int .i64 0) := by kernel_rfl
theorem inf56 : ∃ i, Tryz.prog.info? 56 = some i ∧ i.zero = some (.int .i64 0) ∧ i.size = 1 ∧ i.bytes = 8 := info_parts (by kernel_rfl : (Tryz.prog.info? 56).map (fun i => (i.zero, i.size, i.bytes)) = some (some (.int .i64 0), 1, 8))
-- 59: []api.Held
theorem u59 : Tryz.prog.underlying 59 = some (.slice 104) := by kernel_rfl
theorem ag59 : (Tryz.prog.underlying 59).map isAggD = some false := by kernel_rfl
theorem sz59 : (Tryz.prog.info? 59).map (·.size) = some 1 := by kernel_rfl
theorem ze59 : (Tryz.prog.info? 59).bind (·.zero) = some (.slice none 0 0) := by kernel_rfl
theorem inf59 : ∃ i, Tryz.prog.info? 59 = some i ∧ i.zero = some (.slice none 0 0) ∧ i.size = 1 ∧ i.bytes = 24 := info_parts (by kernel_rfl : (Tryz.prog.info? 59).map (fun i => (i.zero, i.size, i.bytes)) = some (some (.slice none 0 0), 1, 24))
-- 64: map[string]*lock.name
theorem ag64 : (Tryz.prog.underlying 64).map isAggD = some false := by kernel_rfl
theorem sz64 : (Tryz.prog.info? 64).map (·.size) = some 1 := by kernel_rfl
theorem ze64 : (Tryz.prog.info? 64).bind (·.zero) = some (.map none) := by kernel_rfl
theorem inf64 : ∃ i, Tryz.prog.info? 64 = some i ∧ i.zero = some (.map none) ∧ i.size = 1 ∧ i.bytes = 8 := info_parts (by kernel_rfl : (Tryz.prog.info? 64).map (fun i => (i.zero, i.size, i.bytes)) = some (some (.map none), 1, 8))
-- 65: map[int]api.Want
theorem ag65 : (Tryz.prog.underlying 65).map isAggD = some false := by kernel_rfl
theorem sz65 : (Tryz.prog.info? 65).map (·.size) = some 1 := by kernel_rfl
theorem ze65 : (Tryz.prog.info? 65).bind (·.zero) = some (.map none) := by kernel_rfl
theorem inf65 : ∃ i, Tryz.prog.info? 65 = some i ∧ i.zero = some (.map none) ∧ i.size = 1 ∧ i.bytes = 8 := info_parts (by kernel_rfl : (Tryz.prog.info? 65).map (fun i => (i.zero, i.size, i.bytes)) = some (some (.map none), 1, 8))
-- 66: struct { names map[string]*lock.name; waits map[int]api.Want }
theorem ag66 : (Tryz.prog.underlying 66).map isAggD = some true := by kernel_rfl
theorem sz66 : (Tryz.prog.info? 66).map (·.size) = some 2 := by kernel_rfl
theorem ze66 : (Tryz.prog.info? 66).bind (·.zero) = some (.agg #[.map none, .map none]) := by kernel_rfl
theorem inf66 : ∃ i, Tryz.prog.info? 66 = some i ∧ i.zero = some (.agg #[.map none, .map none]) ∧ i.size = 2 ∧ i.bytes = 16 := info_parts (by kernel_rfl : (Tryz.prog.info? 66).map (fun i => (i.zero, i.size, i.bytes)) = some (some (.agg #[.map none, .map none]), 2, 16))
-- 67: lock.Table
theorem ag67 : (Tryz.prog.underlying 67).map isAggD = some true := by kernel_rfl
theorem sz67 : (Tryz.prog.info? 67).map (·.size) = some 2 := by kernel_rfl
theorem ze67 : (Tryz.prog.info? 67).bind (·.zero) = some (.agg #[.map none, .map none]) := by kernel_rfl
theorem inf67 : ∃ i, Tryz.prog.info? 67 = some i ∧ i.zero = some (.agg #[.map none, .map none]) ∧ i.size = 2 ∧ i.bytes = 16 := info_parts (by kernel_rfl : (Tryz.prog.info? 67).map (fun i => (i.zero, i.size, i.bytes)) = some (some (.agg #[.map none, .map none]), 2, 16))
-- 77: struct { From int; To int }
theorem ag77 : (Tryz.prog.underlying 77).map isAggD = some true := by kernel_rfl
theorem sz77 : (Tryz.prog.info? 77).map (·.size) = some 2 := by kernel_rfl
theorem ze77 : (Tryz.prog.info? 77).bind (·.zero) = some (.agg #[.int .i64 0, .int .i64 0]) := by kernel_rfl
theorem inf77 : ∃ i, Tryz.prog.info? 77 = some i ∧ i.zero = some (.agg #[.int .i64 0, .int .i64 0]) ∧ i.size = 2 ∧ i.bytes = 16 := info_parts (by kernel_rfl : (Tryz.prog.info? 77).map (fun i => (i.zero, i.size, i.bytes)) = some (some (.agg #[.int .i64 0, .int .i64 0]), 2, 16))
-- 78: api.Edge
theorem ag78 : (Tryz.prog.underlying 78).map isAggD = some true := by kernel_rfl
theorem sz78 : (Tryz.prog.info? 78).map (·.size) = some 2 := by kernel_rfl
theorem ze78 : (Tryz.prog.info? 78).bind (·.zero) = some (.agg #[.int .i64 0, .int .i64 0]) := by kernel_rfl
theorem inf78 : ∃ i, Tryz.prog.info? 78 = some i ∧ i.zero = some (.agg #[.int .i64 0, .int .i64 0]) ∧ i.size = 2 ∧ i.bytes = 16 := info_parts (by kernel_rfl : (Tryz.prog.info? 78).map (fun i => (i.zero, i.size, i.bytes)) = some (some (.agg #[.int .i64 0, .int .i64 0]), 2, 16))
-- 84: struct { Txn int; Name string; Mode api.Mode; Turn bool }
theorem ag84 : (Tryz.prog.underlying 84).map isAggD = some true := by kernel_rfl
theorem sz84 : (Tryz.prog.info? 84).map (·.size) = some 4 := by kernel_rfl
theorem ze84 : (Tryz.prog.info? 84).bind (·.zero) = some (.agg #[.int .i64 0, .string ⟨#[]⟩, .int .i64 0, .bool false]) := by kernel_rfl
theorem inf84 : ∃ i, Tryz.prog.info? 84 = some i ∧ i.zero = some (.agg #[.int .i64 0, .string ⟨#[]⟩, .int .i64 0, .bool false]) ∧ i.size = 4 ∧ i.bytes = 40 := info_parts (by kernel_rfl : (Tryz.prog.info? 84).map (fun i => (i.zero, i.size, i.bytes)) = some (some (.agg #[.int .i64 0, .string ⟨#[]⟩, .int .i64 0, .bool false]), 4, 40))
-- 85: flotillaref13.Row
theorem ag85 : (Tryz.prog.underlying 85).map isAggD = some true := by kernel_rfl
theorem sz85 : (Tryz.prog.info? 85).map (·.size) = some 4 := by kernel_rfl
theorem ze85 : (Tryz.prog.info? 85).bind (·.zero) = some (.agg #[.int .i64 0, .string ⟨#[]⟩, .int .i64 0, .bool false]) := by kernel_rfl
theorem inf85 : ∃ i, Tryz.prog.info? 85 = some i ∧ i.zero = some (.agg #[.int .i64 0, .string ⟨#[]⟩, .int .i64 0, .bool false]) ∧ i.size = 4 ∧ i.bytes = 40 := info_parts (by kernel_rfl : (Tryz.prog.info? 85).map (fun i => (i.zero, i.size, i.bytes)) = some (some (.agg #[.int .i64 0, .string ⟨#[]⟩, .int .i64 0, .bool false]), 4, 40))
-- 91: map[int]bool
theorem ag91 : (Tryz.prog.underlying 91).map isAggD = some false := by kernel_rfl
theorem sz91 : (Tryz.prog.info? 91).map (·.size) = some 1 := by kernel_rfl
theorem ze91 : (Tryz.prog.info? 91).bind (·.zero) = some (.map none) := by kernel_rfl
theorem inf91 : ∃ i, Tryz.prog.info? 91 = some i ∧ i.zero = some (.map none) ∧ i.size = 1 ∧ i.bytes = 8 := info_parts (by kernel_rfl : (Tryz.prog.info? 91).map (fun i => (i.zero, i.size, i.bytes)) = some (some (.map none), 1, 8))
-- 92: *lock.name
theorem u92 : Tryz.prog.underlying 92 = some (.pointer 95) := by kernel_rfl
theorem ag92 : (Tryz.prog.underlying 92).map isAggD = some false := by kernel_rfl
theorem sz92 : (Tryz.prog.info? 92).map (·.size) = some 1 := by kernel_rfl
theorem ze92 : (Tryz.prog.info? 92).bind (·.zero) = some (.pointer none) := by kernel_rfl
theorem inf92 : ∃ i, Tryz.prog.info? 92 = some i ∧ i.zero = some (.pointer none) ∧ i.size = 1 ∧ i.bytes = 8 := info_parts (by kernel_rfl : (Tryz.prog.info? 92).map (fun i => (i.zero, i.size, i.bytes)) = some (some (.pointer none), 1, 8))
-- 93: map[int]api.Mode
theorem ag93 : (Tryz.prog.underlying 93).map isAggD = some false := by kernel_rfl
theorem sz93 : (Tryz.prog.info? 93).map (·.size) = some 1 := by kernel_rfl
theorem ze93 : (Tryz.prog.info? 93).bind (·.zero) = some (.map none) := by kernel_rfl
theorem inf93 : ∃ i, Tryz.prog.info? 93 = some i ∧ i.zero = some (.map none) ∧ i.size = 1 ∧ i.bytes = 8 := info_parts (by kernel_rfl : (Tryz.prog.info? 93).map (fun i => (i.zero, i.size, i.bytes)) = some (some (.map none), 1, 8))
-- 94: struct { held map[int]api.Mode; turns []int; row []int }
theorem ag94 : (Tryz.prog.underlying 94).map isAggD = some true := by kernel_rfl
theorem sz94 : (Tryz.prog.info? 94).map (·.size) = some 3 := by kernel_rfl
theorem ze94 : (Tryz.prog.info? 94).bind (·.zero) = some (.agg #[.map none, .slice none 0 0, .slice none 0 0]) := by kernel_rfl
theorem inf94 : ∃ i, Tryz.prog.info? 94 = some i ∧ i.zero = some (.agg #[.map none, .slice none 0 0, .slice none 0 0]) ∧ i.size = 3 ∧ i.bytes = 56 := info_parts (by kernel_rfl : (Tryz.prog.info? 94).map (fun i => (i.zero, i.size, i.bytes)) = some (some (.agg #[.map none, .slice none 0 0, .slice none 0 0]), 3, 56))
-- 95: lock.name
theorem ag95 : (Tryz.prog.underlying 95).map isAggD = some true := by kernel_rfl
theorem sz95 : (Tryz.prog.info? 95).map (·.size) = some 3 := by kernel_rfl
theorem ze95 : (Tryz.prog.info? 95).bind (·.zero) = some (.agg #[.map none, .slice none 0 0, .slice none 0 0]) := by kernel_rfl
theorem inf95 : ∃ i, Tryz.prog.info? 95 = some i ∧ i.zero = some (.agg #[.map none, .slice none 0 0, .slice none 0 0]) ∧ i.size = 3 ∧ i.bytes = 56 := info_parts (by kernel_rfl : (Tryz.prog.info? 95).map (fun i => (i.zero, i.size, i.bytes)) = some (some (.agg #[.map none, .slice none 0 0, .slice none 0 0]), 3, 56))
-- 98: iter.Seq[int]
theorem ag98 : (Tryz.prog.underlying 98).map isAggD = some false := by kernel_rfl
theorem sz98 : (Tryz.prog.info? 98).map (·.size) = some 1 := by kernel_rfl
theorem ze98 : (Tryz.prog.info? 98).bind (·.zero) = some (.nilFunc) := by kernel_rfl
theorem inf98 : ∃ i, Tryz.prog.info? 98 = some i ∧ i.zero = some (.nilFunc) ∧ i.size = 1 ∧ i.bytes = 8 := info_parts (by kernel_rfl : (Tryz.prog.info? 98).map (fun i => (i.zero, i.size, i.bytes)) = some (some (.nilFunc), 1, 8))
-- 100: *graph.Graph[int]
theorem u100 : Tryz.prog.underlying 100 = some (.pointer 127) := by kernel_rfl
theorem ag100 : (Tryz.prog.underlying 100).map isAggD = some false := by kernel_rfl
theorem sz100 : (Tryz.prog.info? 100).map (·.size) = some 1 := by kernel_rfl
theorem ze100 : (Tryz.prog.info? 100).bind (·.zero) = some (.pointer none) := by kernel_rfl
theorem inf100 : ∃ i, Tryz.prog.info? 100 = some i ∧ i.zero = some (.pointer none) ∧ i.size = 1 ∧ i.bytes = 8 := info_parts (by kernel_rfl : (Tryz.prog.info? 100).map (fun i => (i.zero, i.size, i.bytes)) = some (some (.pointer none), 1, 8))
-- 104: api.Held
theorem ag104 : (Tryz.prog.underlying 104).map isAggD = some true := by kernel_rfl
theorem sz104 : (Tryz.prog.info? 104).map (·.size) = some 2 := by kernel_rfl
theorem ze104 : (Tryz.prog.info? 104).bind (·.zero) = some (.agg #[.string ⟨#[]⟩, .int .i64 0]) := by kernel_rfl
theorem inf104 : ∃ i, Tryz.prog.info? 104 = some i ∧ i.zero = some (.agg #[.string ⟨#[]⟩, .int .i64 0]) ∧ i.size = 2 ∧ i.bytes = 24 := info_parts (by kernel_rfl : (Tryz.prog.info? 104).map (fun i => (i.zero, i.size, i.bytes)) = some (some (.agg #[.string ⟨#[]⟩, .int .i64 0]), 2, 24))
-- 109: []string
theorem u109 : Tryz.prog.underlying 109 = some (.slice 9) := by kernel_rfl
theorem ag109 : (Tryz.prog.underlying 109).map isAggD = some false := by kernel_rfl
theorem sz109 : (Tryz.prog.info? 109).map (·.size) = some 1 := by kernel_rfl
theorem ze109 : (Tryz.prog.info? 109).bind (·.zero) = some (.slice none 0 0) := by kernel_rfl
theorem inf109 : ∃ i, Tryz.prog.info? 109 = some i ∧ i.zero = some (.slice none 0 0) ∧ i.size = 1 ∧ i.bytes = 24 := info_parts (by kernel_rfl : (Tryz.prog.info? 109).map (fun i => (i.zero, i.size, i.bytes)) = some (some (.slice none 0 0), 1, 24))
-- 112: iter.Seq[string]
theorem ag112 : (Tryz.prog.underlying 112).map isAggD = some false := by kernel_rfl
theorem sz112 : (Tryz.prog.info? 112).map (·.size) = some 1 := by kernel_rfl
theorem ze112 : (Tryz.prog.info? 112).bind (·.zero) = some (.nilFunc) := by kernel_rfl
theorem inf112 : ∃ i, Tryz.prog.info? 112 = some i ∧ i.zero = some (.nilFunc) ∧ i.size = 1 ∧ i.bytes = 8 := info_parts (by kernel_rfl : (Tryz.prog.info? 112).map (fun i => (i.zero, i.size, i.bytes)) = some (some (.nilFunc), 1, 8))
-- 121: uint
theorem u121 : Tryz.prog.underlying 121 = some (.int .u64) := by kernel_rfl
theorem ag121 : (Tryz.prog.underlying 121).map isAggD = some false := by kernel_rfl
theorem sz121 : (Tryz.prog.info? 121).map (·.size) = some 1 := by kernel_rfl
theorem ze121 : (Tryz.prog.info? 121).bind (·.zero) = some (.int .u64 0) := by kernel_rfl
theorem inf121 : ∃ i, Tryz.prog.info? 121 = some i ∧ i.zero = some (.int .u64 0) ∧ i.size = 1 ∧ i.bytes = 8 := info_parts (by kernel_rfl : (Tryz.prog.info? 121).map (fun i => (i.zero, i.size, i.bytes)) = some (some (.int .u64 0), 1, 8))
-- 125: map[graph.edge[int]]bool
theorem ag125 : (Tryz.prog.underlying 125).map isAggD = some false := by kernel_rfl
theorem sz125 : (Tryz.prog.info? 125).map (·.size) = some 1 := by kernel_rfl
theorem ze125 : (Tryz.prog.info? 125).bind (·.zero) = some (.map none) := by kernel_rfl
theorem inf125 : ∃ i, Tryz.prog.info? 125 = some i ∧ i.zero = some (.map none) ∧ i.size = 1 ∧ i.bytes = 8 := info_parts (by kernel_rfl : (Tryz.prog.info? 125).map (fun i => (i.zero, i.size, i.bytes)) = some (some (.map none), 1, 8))
-- 126: struct { all map[graph.edge[int]]bool }
theorem ag126 : (Tryz.prog.underlying 126).map isAggD = some true := by kernel_rfl
theorem sz126 : (Tryz.prog.info? 126).map (·.size) = some 1 := by kernel_rfl
theorem ze126 : (Tryz.prog.info? 126).bind (·.zero) = some (.agg #[.map none]) := by kernel_rfl
theorem inf126 : ∃ i, Tryz.prog.info? 126 = some i ∧ i.zero = some (.agg #[.map none]) ∧ i.size = 1 ∧ i.bytes = 8 := info_parts (by kernel_rfl : (Tryz.prog.info? 126).map (fun i => (i.zero, i.size, i.bytes)) = some (some (.agg #[.map none]), 1, 8))
-- 127: graph.Graph[int]
theorem ag127 : (Tryz.prog.underlying 127).map isAggD = some true := by kernel_rfl
theorem sz127 : (Tryz.prog.info? 127).map (·.size) = some 1 := by kernel_rfl
theorem ze127 : (Tryz.prog.info? 127).bind (·.zero) = some (.agg #[.map none]) := by kernel_rfl
theorem inf127 : ∃ i, Tryz.prog.info? 127 = some i ∧ i.zero = some (.agg #[.map none]) ∧ i.size = 1 ∧ i.bytes = 8 := info_parts (by kernel_rfl : (Tryz.prog.info? 127).map (fun i => (i.zero, i.size, i.bytes)) = some (some (.agg #[.map none]), 1, 8))
-- 128: struct { from int; to int }
theorem ag128 : (Tryz.prog.underlying 128).map isAggD = some true := by kernel_rfl
theorem sz128 : (Tryz.prog.info? 128).map (·.size) = some 2 := by kernel_rfl
theorem ze128 : (Tryz.prog.info? 128).bind (·.zero) = some (.agg #[.int .i64 0, .int .i64 0]) := by kernel_rfl
theorem inf128 : ∃ i, Tryz.prog.info? 128 = some i ∧ i.zero = some (.agg #[.int .i64 0, .int .i64 0]) ∧ i.size = 2 ∧ i.bytes = 16 := info_parts (by kernel_rfl : (Tryz.prog.info? 128).map (fun i => (i.zero, i.size, i.bytes)) = some (some (.agg #[.int .i64 0, .int .i64 0]), 2, 16))
-- 129: graph.edge[int]
theorem ag129 : (Tryz.prog.underlying 129).map isAggD = some true := by kernel_rfl
theorem sz129 : (Tryz.prog.info? 129).map (·.size) = some 2 := by kernel_rfl
theorem ze129 : (Tryz.prog.info? 129).bind (·.zero) = some (.agg #[.int .i64 0, .int .i64 0]) := by kernel_rfl
theorem inf129 : ∃ i, Tryz.prog.info? 129 = some i ∧ i.zero = some (.agg #[.int .i64 0, .int .i64 0]) ∧ i.size = 2 ∧ i.bytes = 16 := info_parts (by kernel_rfl : (Tryz.prog.info? 129).map (fun i => (i.zero, i.size, i.bytes)) = some (some (.agg #[.int .i64 0, .int .i64 0]), 2, 16))
-- 136: [6]bool
theorem u136 : Tryz.prog.underlying 136 = some (.array 6 4) := by kernel_rfl
theorem ag136 : (Tryz.prog.underlying 136).map isAggD = some true := by kernel_rfl
theorem sz136 : (Tryz.prog.info? 136).map (·.size) = some 6 := by kernel_rfl
theorem ze136 : (Tryz.prog.info? 136).bind (·.zero) = some (.agg #[.bool false, .bool false, .bool false, .bool false, .bool false, .bool false]) := by kernel_rfl
theorem inf136 : ∃ i, Tryz.prog.info? 136 = some i ∧ i.zero = some (.agg #[.bool false, .bool false, .bool false, .bool false, .bool false, .bool false]) ∧ i.size = 6 ∧ i.bytes = 6 := info_parts (by kernel_rfl : (Tryz.prog.info? 136).map (fun i => (i.zero, i.size, i.bytes)) = some (some (.agg #[.bool false, .bool false, .bool false, .bool false, .bool false, .bool false]), 6, 6))
-- 137: mode.row
theorem u137 : Tryz.prog.underlying 137 = some (.array 6 4) := by kernel_rfl
theorem ag137 : (Tryz.prog.underlying 137).map isAggD = some true := by kernel_rfl
theorem sz137 : (Tryz.prog.info? 137).map (·.size) = some 6 := by kernel_rfl
theorem ze137 : (Tryz.prog.info? 137).bind (·.zero) = some (.agg #[.bool false, .bool false, .bool false, .bool false, .bool false, .bool false]) := by kernel_rfl
theorem inf137 : ∃ i, Tryz.prog.info? 137 = some i ∧ i.zero = some (.agg #[.bool false, .bool false, .bool false, .bool false, .bool false, .bool false]) ∧ i.size = 6 ∧ i.bytes = 6 := info_parts (by kernel_rfl : (Tryz.prog.info? 137).map (fun i => (i.zero, i.size, i.bytes)) = some (some (.agg #[.bool false, .bool false, .bool false, .bool false, .bool false, .bool false]), 6, 6))
-- 138: [6]mode.row
theorem u138 : Tryz.prog.underlying 138 = some (.array 6 137) := by kernel_rfl
theorem ag138 : (Tryz.prog.underlying 138).map isAggD = some true := by kernel_rfl
theorem sz138 : (Tryz.prog.info? 138).map (·.size) = some 36 := by kernel_rfl
theorem ze138 : (Tryz.prog.info? 138).bind (·.zero) = some (.agg #[.bool false, .bool false, .bool false, .bool false, .bool false, .bool false, .bool false, .bool false, .bool false, .bool false, .bool false, .bool false, .bool false, .bool false, .bool false, .bool false, .bool false, .bool false, .bool false, .bool false, .bool false, .bool false, .bool false, .bool false, .bool false, .bool false, .bool false, .bool false, .bool false, .bool false, .bool false, .bool false, .bool false, .bool false, .bool false, .bool false]) := by kernel_rfl
theorem inf138 : ∃ i, Tryz.prog.info? 138 = some i ∧ i.zero = some (.agg #[.bool false, .bool false, .bool false, .bool false, .bool false, .bool false, .bool false, .bool false, .bool false, .bool false, .bool false, .bool false, .bool false, .bool false, .bool false, .bool false, .bool false, .bool false, .bool false, .bool false, .bool false, .bool false, .bool false, .bool false, .bool false, .bool false, .bool false, .bool false, .bool false, .bool false, .bool false, .bool false, .bool false, .bool false, .bool false, .bool false]) ∧ i.size = 36 ∧ i.bytes = 36 := info_parts (by kernel_rfl : (Tryz.prog.info? 138).map (fun i => (i.zero, i.size, i.bytes)) = some (some (.agg #[.bool false, .bool false, .bool false, .bool false, .bool false, .bool false, .bool false, .bool false, .bool false, .bool false, .bool false, .bool false, .bool false, .bool false, .bool false, .bool false, .bool false, .bool false, .bool false, .bool false, .bool false, .bool false, .bool false, .bool false, .bool false, .bool false, .bool false, .bool false, .bool false, .bool false, .bool false, .bool false, .bool false, .bool false, .bool false, .bool false]), 36, 36))
-- 141: slices.sortedHint
theorem u141 : Tryz.prog.underlying 141 = some (.int .i64) := by kernel_rfl
theorem ag141 : (Tryz.prog.underlying 141).map isAggD = some false := by kernel_rfl
theorem sz141 : (Tryz.prog.info? 141).map (·.size) = some 1 := by kernel_rfl
theorem ze141 : (Tryz.prog.info? 141).bind (·.zero) = some (.int .i64 0) := by kernel_rfl
theorem inf141 : ∃ i, Tryz.prog.info? 141 = some i ∧ i.zero = some (.int .i64 0) ∧ i.size = 1 ∧ i.bytes = 8 := info_parts (by kernel_rfl : (Tryz.prog.info? 141).map (fun i => (i.zero, i.size, i.bytes)) = some (some (.int .i64 0), 1, 8))
-- 148: uint32
theorem u148 : Tryz.prog.underlying 148 = some (.int .u32) := by kernel_rfl
theorem ag148 : (Tryz.prog.underlying 148).map isAggD = some false := by kernel_rfl
theorem sz148 : (Tryz.prog.info? 148).map (·.size) = some 1 := by kernel_rfl
theorem ze148 : (Tryz.prog.info? 148).bind (·.zero) = some (.int .u32 0) := by kernel_rfl
theorem inf148 : ∃ i, Tryz.prog.info? 148 = some i ∧ i.zero = some (.int .u32 0) ∧ i.size = 1 ∧ i.bytes = 4 := info_parts (by kernel_rfl : (Tryz.prog.info? 148).map (fun i => (i.zero, i.size, i.bytes)) = some (some (.int .u32 0), 1, 4))
-- 150: uint64
theorem u150 : Tryz.prog.underlying 150 = some (.int .u64) := by kernel_rfl
theorem ag150 : (Tryz.prog.underlying 150).map isAggD = some false := by kernel_rfl
theorem sz150 : (Tryz.prog.info? 150).map (·.size) = some 1 := by kernel_rfl
theorem ze150 : (Tryz.prog.info? 150).bind (·.zero) = some (.int .u64 0) := by kernel_rfl
theorem inf150 : ∃ i, Tryz.prog.info? 150 = some i ∧ i.zero = some (.int .u64 0) ∧ i.size = 1 ∧ i.bytes = 8 := info_parts (by kernel_rfl : (Tryz.prog.info? 150).map (fun i => (i.zero, i.size, i.bytes)) = some (some (.int .u64 0), 1, 8))
-- 158: slices.xorshift
theorem u158 : Tryz.prog.underlying 158 = some (.int .u64) := by kernel_rfl
theorem ag158 : (Tryz.prog.underlying 158).map isAggD = some false := by kernel_rfl
theorem sz158 : (Tryz.prog.info? 158).map (·.size) = some 1 := by kernel_rfl
theorem ze158 : (Tryz.prog.info? 158).bind (·.zero) = some (.int .u64 0) := by kernel_rfl
theorem inf158 : ∃ i, Tryz.prog.info? 158 = some i ∧ i.zero = some (.int .u64 0) ∧ i.size = 1 ∧ i.bytes = 8 := info_parts (by kernel_rfl : (Tryz.prog.info? 158).map (fun i => (i.zero, i.size, i.bytes)) = some (some (.int .u64 0), 1, 8))
-- 162: *int
theorem u162 : Tryz.prog.underlying 162 = some (.pointer 3) := by kernel_rfl
theorem ag162 : (Tryz.prog.underlying 162).map isAggD = some false := by kernel_rfl
theorem sz162 : (Tryz.prog.info? 162).map (·.size) = some 1 := by kernel_rfl
theorem ze162 : (Tryz.prog.info? 162).bind (·.zero) = some (.pointer none) := by kernel_rfl
theorem inf162 : ∃ i, Tryz.prog.info? 162 = some i ∧ i.zero = some (.pointer none) ∧ i.size = 1 ∧ i.bytes = 8 := info_parts (by kernel_rfl : (Tryz.prog.info? 162).map (fun i => (i.zero, i.size, i.bytes)) = some (some (.pointer none), 1, 8))
-- 176: *slices.xorshift
theorem u176 : Tryz.prog.underlying 176 = some (.pointer 158) := by kernel_rfl
theorem ag176 : (Tryz.prog.underlying 176).map isAggD = some false := by kernel_rfl
theorem sz176 : (Tryz.prog.info? 176).map (·.size) = some 1 := by kernel_rfl
theorem ze176 : (Tryz.prog.info? 176).bind (·.zero) = some (.pointer none) := by kernel_rfl
theorem inf176 : ∃ i, Tryz.prog.info? 176 = some i ∧ i.zero = some (.pointer none) ∧ i.size = 1 ∧ i.bytes = 8 := info_parts (by kernel_rfl : (Tryz.prog.info? 176).map (fun i => (i.zero, i.size, i.bytes)) = some (some (.pointer none), 1, 8))
-- 186: struct { _interface *abi.Type; concrete *abi.Type; asserted *abi.Type; missingMethod string }
theorem ag186 : (Tryz.prog.underlying 186).map isAggD = some true := by kernel_rfl
theorem sz186 : (Tryz.prog.info? 186).map (·.size) = some 4 := by kernel_rfl
theorem ze186 : (Tryz.prog.info? 186).bind (·.zero) = some (.agg #[.pointer none, .pointer none, .pointer none, .string ⟨#[]⟩]) := by kernel_rfl
theorem inf186 : ∃ i, Tryz.prog.info? 186 = some i ∧ i.zero = some (.agg #[.pointer none, .pointer none, .pointer none, .string ⟨#[]⟩]) ∧ i.size = 4 ∧ i.bytes = 40 := info_parts (by kernel_rfl : (Tryz.prog.info? 186).map (fun i => (i.zero, i.size, i.bytes)) = some (some (.agg #[.pointer none, .pointer none, .pointer none, .string ⟨#[]⟩]), 4, 40))
-- 187: runtime.TypeAssertionError
theorem ag187 : (Tryz.prog.underlying 187).map isAggD = some true := by kernel_rfl
theorem sz187 : (Tryz.prog.info? 187).map (·.size) = some 4 := by kernel_rfl
theorem ze187 : (Tryz.prog.info? 187).bind (·.zero) = some (.agg #[.pointer none, .pointer none, .pointer none, .string ⟨#[]⟩]) := by kernel_rfl
theorem inf187 : ∃ i, Tryz.prog.info? 187 = some i ∧ i.zero = some (.agg #[.pointer none, .pointer none, .pointer none, .string ⟨#[]⟩]) ∧ i.size = 4 ∧ i.bytes = 40 := info_parts (by kernel_rfl : (Tryz.prog.info? 187).map (fun i => (i.zero, i.size, i.bytes)) = some (some (.agg #[.pointer none, .pointer none, .pointer none, .string ⟨#[]⟩]), 4, 40))
-- 188: [0]*runtime.PanicNilError
theorem u188 : Tryz.prog.underlying 188 = some (.array 0 16) := by kernel_rfl
theorem ag188 : (Tryz.prog.underlying 188).map isAggD = some true := by kernel_rfl
theorem sz188 : (Tryz.prog.info? 188).map (·.size) = some 0 := by kernel_rfl
theorem ze188 : (Tryz.prog.info? 188).bind (·.zero) = some (.agg #[]) := by kernel_rfl
theorem inf188 : ∃ i, Tryz.prog.info? 188 = some i ∧ i.zero = some (.agg #[]) ∧ i.size = 0 ∧ i.bytes = 0 := info_parts (by kernel_rfl : (Tryz.prog.info? 188).map (fun i => (i.zero, i.size, i.bytes)) = some (some (.agg #[]), 0, 0))
-- 189: struct { _ [0]*runtime.PanicNilError }
theorem ag189 : (Tryz.prog.underlying 189).map isAggD = some true := by kernel_rfl
theorem sz189 : (Tryz.prog.info? 189).map (·.size) = some 0 := by kernel_rfl
theorem ze189 : (Tryz.prog.info? 189).bind (·.zero) = some (.agg #[]) := by kernel_rfl
theorem inf189 : ∃ i, Tryz.prog.info? 189 = some i ∧ i.zero = some (.agg #[]) ∧ i.size = 0 ∧ i.bytes = 0 := info_parts (by kernel_rfl : (Tryz.prog.info? 189).map (fun i => (i.zero, i.size, i.bytes)) = some (some (.agg #[]), 0, 0))
-- 190: runtime.PanicNilError
theorem ag190 : (Tryz.prog.underlying 190).map isAggD = some true := by kernel_rfl
theorem sz190 : (Tryz.prog.info? 190).map (·.size) = some 0 := by kernel_rfl
theorem ze190 : (Tryz.prog.info? 190).bind (·.zero) = some (.agg #[]) := by kernel_rfl
theorem inf190 : ∃ i, Tryz.prog.info? 190 = some i ∧ i.zero = some (.agg #[]) ∧ i.size = 0 ∧ i.bytes = 0 := info_parts (by kernel_rfl : (Tryz.prog.info? 190).map (fun i => (i.zero, i.size, i.bytes)) = some (some (.agg #[]), 0, 0))
-- 191: abi.TFlag
theorem u191 : Tryz.prog.underlying 191 = some (.int .u8) := by kernel_rfl
theorem ag191 : (Tryz.prog.underlying 191).map isAggD = some false := by kernel_rfl
theorem sz191 : (Tryz.prog.info? 191).map (·.size) = some 1 := by kernel_rfl
theorem ze191 : (Tryz.prog.info? 191).bind (·.zero) = some (.int .u8 0) := by kernel_rfl
theorem inf191 : ∃ i, Tryz.prog.info? 191 = some i ∧ i.zero = some (.int .u8 0) ∧ i.size = 1 ∧ i.bytes = 1 := info_parts (by kernel_rfl : (Tryz.prog.info? 191).map (fun i => (i.zero, i.size, i.bytes)) = some (some (.int .u8 0), 1, 1))
-- 192: abi.Kind
theorem u192 : Tryz.prog.underlying 192 = some (.int .u8) := by kernel_rfl
theorem ag192 : (Tryz.prog.underlying 192).map isAggD = some false := by kernel_rfl
theorem sz192 : (Tryz.prog.info? 192).map (·.size) = some 1 := by kernel_rfl
theorem ze192 : (Tryz.prog.info? 192).bind (·.zero) = some (.int .u8 0) := by kernel_rfl
theorem inf192 : ∃ i, Tryz.prog.info? 192 = some i ∧ i.zero = some (.int .u8 0) ∧ i.size = 1 ∧ i.bytes = 1 := info_parts (by kernel_rfl : (Tryz.prog.info? 192).map (fun i => (i.zero, i.size, i.bytes)) = some (some (.int .u8 0), 1, 1))
-- 194: *uint8
theorem u194 : Tryz.prog.underlying 194 = some (.pointer 5) := by kernel_rfl
theorem ag194 : (Tryz.prog.underlying 194).map isAggD = some false := by kernel_rfl
theorem sz194 : (Tryz.prog.info? 194).map (·.size) = some 1 := by kernel_rfl
theorem ze194 : (Tryz.prog.info? 194).bind (·.zero) = some (.pointer none) := by kernel_rfl
theorem inf194 : ∃ i, Tryz.prog.info? 194 = some i ∧ i.zero = some (.pointer none) ∧ i.size = 1 ∧ i.bytes = 8 := info_parts (by kernel_rfl : (Tryz.prog.info? 194).map (fun i => (i.zero, i.size, i.bytes)) = some (some (.pointer none), 1, 8))
-- 195: abi.NameOff
theorem u195 : Tryz.prog.underlying 195 = some (.int .i32) := by kernel_rfl
theorem ag195 : (Tryz.prog.underlying 195).map isAggD = some false := by kernel_rfl
theorem sz195 : (Tryz.prog.info? 195).map (·.size) = some 1 := by kernel_rfl
theorem ze195 : (Tryz.prog.info? 195).bind (·.zero) = some (.int .i32 0) := by kernel_rfl
theorem inf195 : ∃ i, Tryz.prog.info? 195 = some i ∧ i.zero = some (.int .i32 0) ∧ i.size = 1 ∧ i.bytes = 4 := info_parts (by kernel_rfl : (Tryz.prog.info? 195).map (fun i => (i.zero, i.size, i.bytes)) = some (some (.int .i32 0), 1, 4))
-- 196: abi.TypeOff
theorem u196 : Tryz.prog.underlying 196 = some (.int .i32) := by kernel_rfl
theorem ag196 : (Tryz.prog.underlying 196).map isAggD = some false := by kernel_rfl
theorem sz196 : (Tryz.prog.info? 196).map (·.size) = some 1 := by kernel_rfl
theorem ze196 : (Tryz.prog.info? 196).bind (·.zero) = some (.int .i32 0) := by kernel_rfl
theorem inf196 : ∃ i, Tryz.prog.info? 196 = some i ∧ i.zero = some (.int .i32 0) ∧ i.size = 1 ∧ i.bytes = 4 := info_parts (by kernel_rfl : (Tryz.prog.info? 196).map (fun i => (i.zero, i.size, i.bytes)) = some (some (.int .i32 0), 1, 4))
-- 197: struct { Size_ uintptr; PtrBytes uintptr; Hash uint32; TFlag abi.TFlag; Align_ uint8; FieldAlign_ ui
theorem ag197 : (Tryz.prog.underlying 197).map isAggD = some true := by kernel_rfl
theorem sz197 : (Tryz.prog.info? 197).map (·.size) = some 11 := by kernel_rfl
theorem ze197 : (Tryz.prog.info? 197).bind (·.zero) = some (.agg #[.int .u64 0, .int .u64 0, .int .u32 0, .int .u8 0, .int .u8 0, .int .u8 0, .int .u8 0, .nilFunc, .pointer none, .int .i32 0, .int .i32 0]) := by kernel_rfl
theorem inf197 : ∃ i, Tryz.prog.info? 197 = some i ∧ i.zero = some (.agg #[.int .u64 0, .int .u64 0, .int .u32 0, .int .u8 0, .int .u8 0, .int .u8 0, .int .u8 0, .nilFunc, .pointer none, .int .i32 0, .int .i32 0]) ∧ i.size = 11 ∧ i.bytes = 48 := info_parts (by kernel_rfl : (Tryz.prog.info? 197).map (fun i => (i.zero, i.size, i.bytes)) = some (some (.agg #[.int .u64 0, .int .u64 0, .int .u32 0, .int .u8 0, .int .u8 0, .int .u8 0, .int .u8 0, .nilFunc, .pointer none, .int .i32 0, .int .i32 0]), 11, 48))
-- 198: abi.Type
theorem ag198 : (Tryz.prog.underlying 198).map isAggD = some true := by kernel_rfl
theorem sz198 : (Tryz.prog.info? 198).map (·.size) = some 11 := by kernel_rfl
theorem ze198 : (Tryz.prog.info? 198).bind (·.zero) = some (.agg #[.int .u64 0, .int .u64 0, .int .u32 0, .int .u8 0, .int .u8 0, .int .u8 0, .int .u8 0, .nilFunc, .pointer none, .int .i32 0, .int .i32 0]) := by kernel_rfl
theorem inf198 : ∃ i, Tryz.prog.info? 198 = some i ∧ i.zero = some (.agg #[.int .u64 0, .int .u64 0, .int .u32 0, .int .u8 0, .int .u8 0, .int .u8 0, .int .u8 0, .nilFunc, .pointer none, .int .i32 0, .int .i32 0]) ∧ i.size = 11 ∧ i.bytes = 48 := info_parts (by kernel_rfl : (Tryz.prog.info? 198).map (fun i => (i.zero, i.size, i.bytes)) = some (some (.agg #[.int .u64 0, .int .u64 0, .int .u32 0, .int .u8 0, .int .u8 0, .int .u8 0, .int .u8 0, .nilFunc, .pointer none, .int .i32 0, .int .i32 0]), 11, 48))

theorem rpeql100 {x y : Operand} {a : Addr} {w : World} : (sBin .eql 100 x y (.pointer (some a)) (.pointer none)).run Tryz.prog w = .ok (.value (.bool false)) w := by kernel_rfl
theorem rneql100 {x y : Operand} {w : World} : (sBin .eql 100 x y (.pointer none) (.pointer none)).run Tryz.prog w = .ok (.value (.bool true)) w := by kernel_rfl
theorem rpeql23 {x y : Operand} {a : Addr} {w : World} : (sBin .eql 23 x y (.pointer (some a)) (.pointer none)).run Tryz.prog w = .ok (.value (.bool false)) w := by kernel_rfl
theorem rneql23 {x y : Operand} {w : World} : (sBin .eql 23 x y (.pointer none) (.pointer none)).run Tryz.prog w = .ok (.value (.bool true)) w := by kernel_rfl
theorem rpeql92 {x y : Operand} {a : Addr} {w : World} : (sBin .eql 92 x y (.pointer (some a)) (.pointer none)).run Tryz.prog w = .ok (.value (.bool false)) w := by kernel_rfl
theorem rneql92 {x y : Operand} {w : World} : (sBin .eql 92 x y (.pointer none) (.pointer none)).run Tryz.prog w = .ok (.value (.bool true)) w := by kernel_rfl
theorem rpneq23 {x y : Operand} {a : Addr} {w : World} : (sBin .neq 23 x y (.pointer (some a)) (.pointer none)).run Tryz.prog w = .ok (.value (.bool true)) w := by kernel_rfl
theorem rnneq23 {x y : Operand} {w : World} : (sBin .neq 23 x y (.pointer none) (.pointer none)).run Tryz.prog w = .ok (.value (.bool false)) w := by kernel_rfl
theorem rfa104_0 {a : Addr} {w : World} : (sFieldAddr 104 (.pointer (some a)) 0).run Tryz.prog w = .ok (.value (.pointer (some (a)))) w := by kernel_rfl
theorem rfa127_0 {a : Addr} {w : World} : (sFieldAddr 127 (.pointer (some a)) 0).run Tryz.prog w = .ok (.value (.pointer (some (a)))) w := by kernel_rfl
theorem rfa129_0 {a : Addr} {w : World} : (sFieldAddr 129 (.pointer (some a)) 0).run Tryz.prog w = .ok (.value (.pointer (some (a)))) w := by kernel_rfl
theorem rfa129_1 {a : Addr} {w : World} : (sFieldAddr 129 (.pointer (some a)) 1).run Tryz.prog w = .ok (.value (.pointer (some (a.add 1)))) w := by kernel_rfl
theorem rfa27_0 {a : Addr} {w : World} : (sFieldAddr 27 (.pointer (some a)) 0).run Tryz.prog w = .ok (.value (.pointer (some (a)))) w := by kernel_rfl
theorem rfa27_1 {a : Addr} {w : World} : (sFieldAddr 27 (.pointer (some a)) 1).run Tryz.prog w = .ok (.value (.pointer (some (a.add 1)))) w := by kernel_rfl
theorem rfa31_0 {a : Addr} {w : World} : (sFieldAddr 31 (.pointer (some a)) 0).run Tryz.prog w = .ok (.value (.pointer (some (a)))) w := by kernel_rfl
theorem rfa31_1 {a : Addr} {w : World} : (sFieldAddr 31 (.pointer (some a)) 1).run Tryz.prog w = .ok (.value (.pointer (some (a.add 1)))) w := by kernel_rfl
theorem rfa33_0 {a : Addr} {w : World} : (sFieldAddr 33 (.pointer (some a)) 0).run Tryz.prog w = .ok (.value (.pointer (some (a)))) w := by kernel_rfl
theorem rfa33_1 {a : Addr} {w : World} : (sFieldAddr 33 (.pointer (some a)) 1).run Tryz.prog w = .ok (.value (.pointer (some (a.add 1)))) w := by kernel_rfl
theorem rfa33_2 {a : Addr} {w : World} : (sFieldAddr 33 (.pointer (some a)) 2).run Tryz.prog w = .ok (.value (.pointer (some (a.add 2)))) w := by kernel_rfl
theorem rfa53_0 {a : Addr} {w : World} : (sFieldAddr 53 (.pointer (some a)) 0).run Tryz.prog w = .ok (.value (.pointer (some (a)))) w := by kernel_rfl
theorem rfa53_1 {a : Addr} {w : World} : (sFieldAddr 53 (.pointer (some a)) 1).run Tryz.prog w = .ok (.value (.pointer (some (a.add 1)))) w := by kernel_rfl
theorem rfa67_0 {a : Addr} {w : World} : (sFieldAddr 67 (.pointer (some a)) 0).run Tryz.prog w = .ok (.value (.pointer (some (a)))) w := by kernel_rfl
theorem rfa67_1 {a : Addr} {w : World} : (sFieldAddr 67 (.pointer (some a)) 1).run Tryz.prog w = .ok (.value (.pointer (some (a.add 1)))) w := by kernel_rfl
theorem rfa78_0 {a : Addr} {w : World} : (sFieldAddr 78 (.pointer (some a)) 0).run Tryz.prog w = .ok (.value (.pointer (some (a)))) w := by kernel_rfl
theorem rfa78_1 {a : Addr} {w : World} : (sFieldAddr 78 (.pointer (some a)) 1).run Tryz.prog w = .ok (.value (.pointer (some (a.add 1)))) w := by kernel_rfl
theorem rfa85_0 {a : Addr} {w : World} : (sFieldAddr 85 (.pointer (some a)) 0).run Tryz.prog w = .ok (.value (.pointer (some (a)))) w := by kernel_rfl
theorem rfa85_1 {a : Addr} {w : World} : (sFieldAddr 85 (.pointer (some a)) 1).run Tryz.prog w = .ok (.value (.pointer (some (a.add 1)))) w := by kernel_rfl
theorem rfa85_2 {a : Addr} {w : World} : (sFieldAddr 85 (.pointer (some a)) 2).run Tryz.prog w = .ok (.value (.pointer (some (a.add 2)))) w := by kernel_rfl
theorem rfa85_3 {a : Addr} {w : World} : (sFieldAddr 85 (.pointer (some a)) 3).run Tryz.prog w = .ok (.value (.pointer (some (a.add 3)))) w := by kernel_rfl
theorem rfa95_0 {a : Addr} {w : World} : (sFieldAddr 95 (.pointer (some a)) 0).run Tryz.prog w = .ok (.value (.pointer (some (a)))) w := by kernel_rfl
theorem rfa95_1 {a : Addr} {w : World} : (sFieldAddr 95 (.pointer (some a)) 1).run Tryz.prog w = .ok (.value (.pointer (some (a.add 1)))) w := by kernel_rfl
theorem rfa95_2 {a : Addr} {w : World} : (sFieldAddr 95 (.pointer (some a)) 2).run Tryz.prog w = .ok (.value (.pointer (some (a.add 2)))) w := by kernel_rfl
theorem rix109 {a : Addr} {n c i : Nat} {w : World} (h : i < n) : (sIndexAddr 109 (.slice (some a) n c) (.int .i64 (i : Nat))).run Tryz.prog w = .ok (.value (.pointer (some (a.add (i))))) w := by
  have := run_idxS (P := Tryz.prog) (w := w) (a := a) (c := c) (q := .i64) (i := (i : Nat)) u109 sz9 (by omega) (show ((i : Nat) : Int) < n by omega)
  rw [show ((i : Nat) : Int).toNat * 1 = i by omega] at this
  exact this
theorem rxa137 {a : Addr} {i : Nat} {w : World} (h : i < 6) : (sIndexAddr 137 (.pointer (some a)) (.int .i64 (i : Nat))).run Tryz.prog w = .ok (.value (.pointer (some (a.add (i))))) w := by
  have := run_idxA (P := Tryz.prog) (w := w) (a := a) (q := .i64) (i := (i : Nat)) u137 sz4 (by omega) (show ((i : Nat) : Int) < (6 : Nat) by omega)
  rw [show ((i : Nat) : Int).toNat * 1 = i by omega] at this
  exact this
theorem rxa138 {a : Addr} {i : Nat} {w : World} (h : i < 6) : (sIndexAddr 138 (.pointer (some a)) (.int .i64 (i : Nat))).run Tryz.prog w = .ok (.value (.pointer (some (a.add (i * 6))))) w := by
  have := run_idxA (P := Tryz.prog) (w := w) (a := a) (q := .i64) (i := (i : Nat)) u138 sz137 (by omega) (show ((i : Nat) : Int) < (6 : Nat) by omega)
  rw [show ((i : Nat) : Int).toNat * 6 = i * 6 by omega] at this
  exact this
theorem rix22 {a : Addr} {n c i : Nat} {w : World} (h : i < n) : (sIndexAddr 22 (.slice (some a) n c) (.int .i64 (i : Nat))).run Tryz.prog w = .ok (.value (.pointer (some (a.add (i * 4))))) w := by
  have := run_idxS (P := Tryz.prog) (w := w) (a := a) (c := c) (q := .i64) (i := (i : Nat)) u22 sz33 (by omega) (show ((i : Nat) : Int) < n by omega)
  rw [show ((i : Nat) : Int).toNat * 4 = i * 4 by omega] at this
  exact this
theorem rix25 {a : Addr} {n c i : Nat} {w : World} (h : i < n) : (sIndexAddr 25 (.slice (some a) n c) (.int .i64 (i : Nat))).run Tryz.prog w = .ok (.value (.pointer (some (a.add (i * 4))))) w := by
  have := run_idxS (P := Tryz.prog) (w := w) (a := a) (c := c) (q := .i64) (i := (i : Nat)) u25 sz85 (by omega) (show ((i : Nat) : Int) < n by omega)
  rw [show ((i : Nat) : Int).toNat * 4 = i * 4 by omega] at this
  exact this
theorem rix39 {a : Addr} {n c i : Nat} {w : World} (h : i < n) : (sIndexAddr 39 (.slice (some a) n c) (.int .i64 (i : Nat))).run Tryz.prog w = .ok (.value (.pointer (some (a.add (i * 2))))) w := by
  have := run_idxS (P := Tryz.prog) (w := w) (a := a) (c := c) (q := .i64) (i := (i : Nat)) u39 sz78 (by omega) (show ((i : Nat) : Int) < n by omega)
  rw [show ((i : Nat) : Int).toNat * 2 = i * 2 by omega] at this
  exact this
theorem rix44 {a : Addr} {n c i : Nat} {w : World} (h : i < n) : (sIndexAddr 44 (.slice (some a) n c) (.int .i64 (i : Nat))).run Tryz.prog w = .ok (.value (.pointer (some (a.add (i))))) w := by
  have := run_idxS (P := Tryz.prog) (w := w) (a := a) (c := c) (q := .i64) (i := (i : Nat)) u44 sz3 (by omega) (show ((i : Nat) : Int) < n by omega)
  rw [show ((i : Nat) : Int).toNat * 1 = i by omega] at this
  exact this
theorem rix50 {a : Addr} {n c i : Nat} {w : World} (h : i < n) : (sIndexAddr 50 (.slice (some a) n c) (.int .i64 (i : Nat))).run Tryz.prog w = .ok (.value (.pointer (some (a.add (i * 3))))) w := by
  have := run_idxS (P := Tryz.prog) (w := w) (a := a) (c := c) (q := .i64) (i := (i : Nat)) u50 sz53 (by omega) (show ((i : Nat) : Int) < n by omega)
  rw [show ((i : Nat) : Int).toNat * 3 = i * 3 by omega] at this
  exact this
theorem rix59 {a : Addr} {n c i : Nat} {w : World} (h : i < n) : (sIndexAddr 59 (.slice (some a) n c) (.int .i64 (i : Nat))).run Tryz.prog w = .ok (.value (.pointer (some (a.add (i * 2))))) w := by
  have := run_idxS (P := Tryz.prog) (w := w) (a := a) (c := c) (q := .i64) (i := (i : Nat)) u59 sz104 (by omega) (show ((i : Nat) : Int) < n by omega)
  rw [show ((i : Nat) : Int).toNat * 2 = i * 2 by omega] at this
  exact this
theorem ld109 {a : Addr} {v : Value} {w : World} {K : Value → World → Prop} (h : w.cell? a = some v) : (std Tryz.prog).step (sLoad 109 (.pointer (some a))) w K = K v w := step_run (run_sLoad (run_loadVar1 ag109 h))
theorem sld109 {a : Addr} {v : Value} {S : World → Prop} {k : Value → Prop} (hne : ∃ w, S w) (h : ∀ w, S w → w.cell? a = some v) : (std Tryz.prog).stepS S (sLoad 109 (.pointer (some a))) k = k v := stepS_run hne fun w hw => run_sLoad (run_loadVar1 ag109 (h w hw))
theorem ld125 {a : Addr} {v : Value} {w : World} {K : Value → World → Prop} (h : w.cell? a = some v) : (std Tryz.prog).step (sLoad 125 (.pointer (some a))) w K = K v w := step_run (run_sLoad (run_loadVar1 ag125 h))
theorem sld125 {a : Addr} {v : Value} {S : World → Prop} {k : Value → Prop} (hne : ∃ w, S w) (h : ∀ w, S w → w.cell? a = some v) : (std Tryz.prog).stepS S (sLoad 125 (.pointer (some a))) k = k v := stepS_run hne fun w hw => run_sLoad (run_loadVar1 ag125 (h w hw))
theorem ld158 {a : Addr} {v : Value} {w : World} {K : Value → World → Prop} (h : w.cell? a = some v) : (std Tryz.prog).step (sLoad 158 (.pointer (some a))) w K = K v w := step_run (run_sLoad (run_loadVar1 ag158 h))
theorem sld158 {a : Addr} {v : Value} {S : World → Prop} {k : Value → Prop} (hne : ∃ w, S w) (h : ∀ w, S w → w.cell? a = some v) : (std Tryz.prog).stepS S (sLoad 158 (.pointer (some a))) k = k v := stepS_run hne fun w hw => run_sLoad (run_loadVar1 ag158 (h w hw))
theorem ld25 {a : Addr} {v : Value} {w : World} {K : Value → World → Prop} (h : w.cell? a = some v) : (std Tryz.prog).step (sLoad 25 (.pointer (some a))) w K = K v w := step_run (run_sLoad (run_loadVar1 ag25 h))
theorem sld25 {a : Addr} {v : Value} {S : World → Prop} {k : Value → Prop} (hne : ∃ w, S w) (h : ∀ w, S w → w.cell? a = some v) : (std Tryz.prog).stepS S (sLoad 25 (.pointer (some a))) k = k v := stepS_run hne fun w hw => run_sLoad (run_loadVar1 ag25 (h w hw))
theorem ld29 {a : Addr} {v : Value} {w : World} {K : Value → World → Prop} (h : w.cell? a = some v) : (std Tryz.prog).step (sLoad 29 (.pointer (some a))) w K = K v w := step_run (run_sLoad (run_loadVar1 ag29 h))
theorem sld29 {a : Addr} {v : Value} {S : World → Prop} {k : Value → Prop} (hne : ∃ w, S w) (h : ∀ w, S w → w.cell? a = some v) : (std Tryz.prog).stepS S (sLoad 29 (.pointer (some a))) k = k v := stepS_run hne fun w hw => run_sLoad (run_loadVar1 ag29 (h w hw))
theorem ld3 {a : Addr} {v : Value} {w : World} {K : Value → World → Prop} (h : w.cell? a = some v) : (std Tryz.prog).step (sLoad 3 (.pointer (some a))) w K = K v w := step_run (run_sLoad (run_loadVar1 ag3 h))
theorem sld3 {a : Addr} {v : Value} {S : World → Prop} {k : Value → Prop} (hne : ∃ w, S w) (h : ∀ w, S w → w.cell? a = some v) : (std Tryz.prog).stepS S (sLoad 3 (.pointer (some a))) k = k v := stepS_run hne fun w hw => run_sLoad (run_loadVar1 ag3 (h w hw))
theorem ld39 {a : Addr} {v : Value} {w : World} {K : Value → World → Prop} (h : w.cell? a = some v) : (std Tryz.prog).step (sLoad 39 (.pointer (some a))) w K = K v w := step_run (run_sLoad (run_loadVar1 ag39 h))
theorem sld39 {a : Addr} {v : Value} {S : World → Prop} {k : Value → Prop} (hne : ∃ w, S w) (h : ∀ w, S w → w.cell? a = some v) : (std Tryz.prog).stepS S (sLoad 39 (.pointer (some a))) k = k v := stepS_run hne fun w hw => run_sLoad (run_loadVar1 ag39 (h w hw))
theorem ld4 {a : Addr} {v : Value} {w : World} {K : Value → World → Prop} (h : w.cell? a = some v) : (std Tryz.prog).step (sLoad 4 (.pointer (some a))) w K = K v w := step_run (run_sLoad (run_loadVar1 ag4 h))
theorem sld4 {a : Addr} {v : Value} {S : World → Prop} {k : Value → Prop} (hne : ∃ w, S w) (h : ∀ w, S w → w.cell? a = some v) : (std Tryz.prog).stepS S (sLoad 4 (.pointer (some a))) k = k v := stepS_run hne fun w hw => run_sLoad (run_loadVar1 ag4 (h w hw))
theorem ld44 {a : Addr} {v : Value} {w : World} {K : Value → World → Prop} (h : w.cell? a = some v) : (std Tryz.prog).step (sLoad 44 (.pointer (some a))) w K = K v w := step_run (run_sLoad (run_loadVar1 ag44 h))
theorem sld44 {a : Addr} {v : Value} {S : World → Prop} {k : Value → Prop} (hne : ∃ w, S w) (h : ∀ w, S w → w.cell? a = some v) : (std Tryz.prog).stepS S (sLoad 44 (.pointer (some a))) k = k v := stepS_run hne fun w hw => run_sLoad (run_loadVar1 ag44 (h w hw))
theorem ld50 {a : Addr} {v : Value} {w : World} {K : Value → World → Prop} (h : w.cell? a = some v) : (std Tryz.prog).step (sLoad 50 (.pointer (some a))) w K = K v w := step_run (run_sLoad (run_loadVar1 ag50 h))
theorem sld50 {a : Addr} {v : Value} {S : World → Prop} {k : Value → Prop} (hne : ∃ w, S w) (h : ∀ w, S w → w.cell? a = some v) : (std Tryz.prog).stepS S (sLoad 50 (.pointer (some a))) k = k v := stepS_run hne fun w hw => run_sLoad (run_loadVar1 ag50 (h w hw))
theorem ld64 {a : Addr} {v : Value} {w : World} {K : Value → World → Prop} (h : w.cell? a = some v) : (std Tryz.prog).step (sLoad 64 (.pointer (some a))) w K = K v w := step_run (run_sLoad (run_loadVar1 ag64 h))
theorem sld64 {a : Addr} {v : Value} {S : World → Prop} {k : Value → Prop} (hne : ∃ w, S w) (h : ∀ w, S w → w.cell? a = some v) : (std Tryz.prog).stepS S (sLoad 64 (.pointer (some a))) k = k v := stepS_run hne fun w hw => run_sLoad (run_loadVar1 ag64 (h w hw))
theorem ld65 {a : Addr} {v : Value} {w : World} {K : Value → World → Prop} (h : w.cell? a = some v) : (std Tryz.prog).step (sLoad 65 (.pointer (some a))) w K = K v w := step_run (run_sLoad (run_loadVar1 ag65 h))
theorem sld65 {a : Addr} {v : Value} {S : World → Prop} {k : Value → Prop} (hne : ∃ w, S w) (h : ∀ w, S w → w.cell? a = some v) : (std Tryz.prog).stepS S (sLoad 65 (.pointer (some a))) k = k v := stepS_run hne fun w hw => run_sLoad (run_loadVar1 ag65 (h w hw))
theorem ld9 {a : Addr} {v : Value} {w : World} {K : Value → World → Prop} (h : w.cell? a = some v) : (std Tryz.prog).step (sLoad 9 (.pointer (some a))) w K = K v w := step_run (run_sLoad (run_loadVar1 ag9 h))
theorem sld9 {a : Addr} {v : Value} {S : World → Prop} {k : Value → Prop} (hne : ∃ w, S w) (h : ∀ w, S w → w.cell? a = some v) : (std Tryz.prog).stepS S (sLoad 9 (.pointer (some a))) k = k v := stepS_run hne fun w hw => run_sLoad (run_loadVar1 ag9 (h w hw))
theorem ld91 {a : Addr} {v : Value} {w : World} {K : Value → World → Prop} (h : w.cell? a = some v) : (std Tryz.prog).step (sLoad 91 (.pointer (some a))) w K = K v w := step_run (run_sLoad (run_loadVar1 ag91 h))
theorem sld91 {a : Addr} {v : Value} {S : World → Prop} {k : Value → Prop} (hne : ∃ w, S w) (h : ∀ w, S w → w.cell? a = some v) : (std Tryz.prog).stepS S (sLoad 91 (.pointer (some a))) k = k v := stepS_run hne fun w hw => run_sLoad (run_loadVar1 ag91 (h w hw))
theorem ld93 {a : Addr} {v : Value} {w : World} {K : Value → World → Prop} (h : w.cell? a = some v) : (std Tryz.prog).step (sLoad 93 (.pointer (some a))) w K = K v w := step_run (run_sLoad (run_loadVar1 ag93 h))
theorem sld93 {a : Addr} {v : Value} {S : World → Prop} {k : Value → Prop} (hne : ∃ w, S w) (h : ∀ w, S w → w.cell? a = some v) : (std Tryz.prog).stepS S (sLoad 93 (.pointer (some a))) k = k v := stepS_run hne fun w hw => run_sLoad (run_loadVar1 ag93 (h w hw))
theorem px_add {t : TypeId} {x y : Operand} {q : IntKind} {a b : Int}  {w : World} {K : Value → World → Prop} : (std Tryz.prog).step (sBin .add t x y (.int q a) (.int q b)) w K = K (.int q (q.wrap (a + b))) w := step_run (r_add)
theorem sx_add {t : TypeId} {x y : Operand} {q : IntKind} {a b : Int}  {S : World → Prop} {k : Value → Prop} (hne : ∃ w, S w) : (std Tryz.prog).stepS S (sBin .add t x y (.int q a) (.int q b)) k = k (.int q (q.wrap (a + b))) := stepS_run hne fun _ _ => r_add
theorem px_sub {t : TypeId} {x y : Operand} {q : IntKind} {a b : Int}  {w : World} {K : Value → World → Prop} : (std Tryz.prog).step (sBin .sub t x y (.int q a) (.int q b)) w K = K (.int q (q.wrap (a - b))) w := step_run (r_sub)
theorem sx_sub {t : TypeId} {x y : Operand} {q : IntKind} {a b : Int}  {S : World → Prop} {k : Value → Prop} (hne : ∃ w, S w) : (std Tryz.prog).stepS S (sBin .sub t x y (.int q a) (.int q b)) k = k (.int q (q.wrap (a - b))) := stepS_run hne fun _ _ => r_sub
theorem px_mul {t : TypeId} {x y : Operand} {q : IntKind} {a b : Int}  {w : World} {K : Value → World → Prop} : (std Tryz.prog).step (sBin .mul t x y (.int q a) (.int q b)) w K = K (.int q (q.wrap (a * b))) w := step_run (r_mul)
theorem sx_mul {t : TypeId} {x y : Operand} {q : IntKind} {a b : Int}  {S : World → Prop} {k : Value → Prop} (hne : ∃ w, S w) : (std Tryz.prog).stepS S (sBin .mul t x y (.int q a) (.int q b)) k = k (.int q (q.wrap (a * b))) := stepS_run hne fun _ _ => r_mul
theorem px_and {t : TypeId} {x y : Operand} {q : IntKind} {a b : Int}  {w : World} {K : Value → World → Prop} : (std Tryz.prog).step (sBin .and t x y (.int q a) (.int q b)) w K = K (.int q (bitOp .and q a b)) w := step_run (r_and)
theorem sx_and {t : TypeId} {x y : Operand} {q : IntKind} {a b : Int}  {S : World → Prop} {k : Value → Prop} (hne : ∃ w, S w) : (std Tryz.prog).stepS S (sBin .and t x y (.int q a) (.int q b)) k = k (.int q (bitOp .and q a b)) := stepS_run hne fun _ _ => r_and
theorem px_or {t : TypeId} {x y : Operand} {q : IntKind} {a b : Int}  {w : World} {K : Value → World → Prop} : (std Tryz.prog).step (sBin .or t x y (.int q a) (.int q b)) w K = K (.int q (bitOp .or q a b)) w := step_run (r_or)
theorem sx_or {t : TypeId} {x y : Operand} {q : IntKind} {a b : Int}  {S : World → Prop} {k : Value → Prop} (hne : ∃ w, S w) : (std Tryz.prog).stepS S (sBin .or t x y (.int q a) (.int q b)) k = k (.int q (bitOp .or q a b)) := stepS_run hne fun _ _ => r_or
theorem px_xor {t : TypeId} {x y : Operand} {q : IntKind} {a b : Int}  {w : World} {K : Value → World → Prop} : (std Tryz.prog).step (sBin .xor t x y (.int q a) (.int q b)) w K = K (.int q (bitOp .xor q a b)) w := step_run (r_xor)
theorem sx_xor {t : TypeId} {x y : Operand} {q : IntKind} {a b : Int}  {S : World → Prop} {k : Value → Prop} (hne : ∃ w, S w) : (std Tryz.prog).stepS S (sBin .xor t x y (.int q a) (.int q b)) k = k (.int q (bitOp .xor q a b)) := stepS_run hne fun _ _ => r_xor
theorem px_lss {t : TypeId} {x y : Operand} {q : IntKind} {a b : Int}  {w : World} {K : Value → World → Prop} : (std Tryz.prog).step (sBin .lss t x y (.int q a) (.int q b)) w K = K (.bool (decide (a < b))) w := step_run (r_lss)
theorem sx_lss {t : TypeId} {x y : Operand} {q : IntKind} {a b : Int}  {S : World → Prop} {k : Value → Prop} (hne : ∃ w, S w) : (std Tryz.prog).stepS S (sBin .lss t x y (.int q a) (.int q b)) k = k (.bool (decide (a < b))) := stepS_run hne fun _ _ => r_lss
theorem px_leq {t : TypeId} {x y : Operand} {q : IntKind} {a b : Int}  {w : World} {K : Value → World → Prop} : (std Tryz.prog).step (sBin .leq t x y (.int q a) (.int q b)) w K = K (.bool (decide (a ≤ b))) w := step_run (r_leq)
theorem sx_leq {t : TypeId} {x y : Operand} {q : IntKind} {a b : Int}  {S : World → Prop} {k : Value → Prop} (hne : ∃ w, S w) : (std Tryz.prog).stepS S (sBin .leq t x y (.int q a) (.int q b)) k = k (.bool (decide (a ≤ b))) := stepS_run hne fun _ _ => r_leq
theorem px_gtr {t : TypeId} {x y : Operand} {q : IntKind} {a b : Int}  {w : World} {K : Value → World → Prop} : (std Tryz.prog).step (sBin .gtr t x y (.int q a) (.int q b)) w K = K (.bool (decide (b < a))) w := step_run (r_gtr)
theorem sx_gtr {t : TypeId} {x y : Operand} {q : IntKind} {a b : Int}  {S : World → Prop} {k : Value → Prop} (hne : ∃ w, S w) : (std Tryz.prog).stepS S (sBin .gtr t x y (.int q a) (.int q b)) k = k (.bool (decide (b < a))) := stepS_run hne fun _ _ => r_gtr
theorem px_geq {t : TypeId} {x y : Operand} {q : IntKind} {a b : Int}  {w : World} {K : Value → World → Prop} : (std Tryz.prog).step (sBin .geq t x y (.int q a) (.int q b)) w K = K (.bool (decide (b ≤ a))) w := step_run (r_geq)
theorem sx_geq {t : TypeId} {x y : Operand} {q : IntKind} {a b : Int}  {S : World → Prop} {k : Value → Prop} (hne : ∃ w, S w) : (std Tryz.prog).stepS S (sBin .geq t x y (.int q a) (.int q b)) k = k (.bool (decide (b ≤ a))) := stepS_run hne fun _ _ => r_geq
theorem px_eql {t : TypeId} {x y : Operand} {q : IntKind} {a b : Int}  {w : World} {K : Value → World → Prop} : (std Tryz.prog).step (sBin .eql t x y (.int q a) (.int q b)) w K = K (.bool (decide (a = b))) w := step_run (r_eql)
theorem sx_eql {t : TypeId} {x y : Operand} {q : IntKind} {a b : Int}  {S : World → Prop} {k : Value → Prop} (hne : ∃ w, S w) : (std Tryz.prog).stepS S (sBin .eql t x y (.int q a) (.int q b)) k = k (.bool (decide (a = b))) := stepS_run hne fun _ _ => r_eql
theorem px_neq {t : TypeId} {x y : Operand} {q : IntKind} {a b : Int}  {w : World} {K : Value → World → Prop} : (std Tryz.prog).step (sBin .neq t x y (.int q a) (.int q b)) w K = K (.bool (decide (a ≠ b))) w := step_run (r_neq)
theorem sx_neq {t : TypeId} {x y : Operand} {q : IntKind} {a b : Int}  {S : World → Prop} {k : Value → Prop} (hne : ∃ w, S w) : (std Tryz.prog).stepS S (sBin .neq t x y (.int q a) (.int q b)) k = k (.bool (decide (a ≠ b))) := stepS_run hne fun _ _ => r_neq
theorem px_quo {t : TypeId} {x y : Operand} {q : IntKind} {a b : Int} (h : b ≠ 0) {w : World} {K : Value → World → Prop} : (std Tryz.prog).step (sBin .quo t x y (.int q a) (.int q b)) w K = K (.int q (q.wrap (a.tdiv b))) w := step_run (r_quo h)
theorem sx_quo {t : TypeId} {x y : Operand} {q : IntKind} {a b : Int} (h : b ≠ 0) {S : World → Prop} {k : Value → Prop} (hne : ∃ w, S w) : (std Tryz.prog).stepS S (sBin .quo t x y (.int q a) (.int q b)) k = k (.int q (q.wrap (a.tdiv b))) := stepS_run hne fun _ _ => r_quo h
theorem px_rem {t : TypeId} {x y : Operand} {q : IntKind} {a b : Int} (h : b ≠ 0) {w : World} {K : Value → World → Prop} : (std Tryz.prog).step (sBin .rem t x y (.int q a) (.int q b)) w K = K (.int q (a.tmod b)) w := step_run (r_rem h)
theorem sx_rem {t : TypeId} {x y : Operand} {q : IntKind} {a b : Int} (h : b ≠ 0) {S : World → Prop} {k : Value → Prop} (hne : ∃ w, S w) : (std Tryz.prog).stepS S (sBin .rem t x y (.int q a) (.int q b)) k = k (.int q (a.tmod b)) := stepS_run hne fun _ _ => r_rem h
theorem px_shl {t : TypeId} {x y : Operand} {q q' : IntKind} {a b : Int} (h : ¬ b < 0) {w : World} {K : Value → World → Prop} : (std Tryz.prog).step (sBin .shl t x y (.int q a) (.int q' b)) w K = K (.int q (q.wrap (a * 2 ^ (min b.toNat q.bits)))) w := step_run (r_shl h)
theorem sx_shl {t : TypeId} {x y : Operand} {q q' : IntKind} {a b : Int} (h : ¬ b < 0) {S : World → Prop} {k : Value → Prop} (hne : ∃ w, S w) : (std Tryz.prog).stepS S (sBin .shl t x y (.int q a) (.int q' b)) k = k (.int q (q.wrap (a * 2 ^ (min b.toNat q.bits)))) := stepS_run hne fun _ _ => r_shl h
theorem px_shr {t : TypeId} {x y : Operand} {q q' : IntKind} {a b : Int} (h : ¬ b < 0) {w : World} {K : Value → World → Prop} : (std Tryz.prog).step (sBin .shr t x y (.int q a) (.int q' b)) w K = K (.int q (a.fdiv (2 ^ (min b.toNat q.bits)))) w := step_run (r_shr h)
theorem sx_shr {t : TypeId} {x y : Operand} {q q' : IntKind} {a b : Int} (h : ¬ b < 0) {S : World → Prop} {k : Value → Prop} (hne : ∃ w, S w) : (std Tryz.prog).stepS S (sBin .shr t x y (.int q a) (.int q' b)) k = k (.int q (a.fdiv (2 ^ (min b.toNat q.bits)))) := stepS_run hne fun _ _ => r_shr h
theorem px_seql {t : TypeId} {x y : Operand} {a b : ByteArray}  {w : World} {K : Value → World → Prop} : (std Tryz.prog).step (sBin .eql t x y (.string a) (.string b)) w K = K (.bool (decide (a = b))) w := step_run (r_seql)
theorem sx_seql {t : TypeId} {x y : Operand} {a b : ByteArray}  {S : World → Prop} {k : Value → Prop} (hne : ∃ w, S w) : (std Tryz.prog).stepS S (sBin .eql t x y (.string a) (.string b)) k = k (.bool (decide (a = b))) := stepS_run hne fun _ _ => r_seql
theorem px_sneq {t : TypeId} {x y : Operand} {a b : ByteArray}  {w : World} {K : Value → World → Prop} : (std Tryz.prog).step (sBin .neq t x y (.string a) (.string b)) w K = K (.bool (!decide (a = b))) w := step_run (r_sneq)
theorem sx_sneq {t : TypeId} {x y : Operand} {a b : ByteArray}  {S : World → Prop} {k : Value → Prop} (hne : ∃ w, S w) : (std Tryz.prog).stepS S (sBin .neq t x y (.string a) (.string b)) k = k (.bool (!decide (a = b))) := stepS_run hne fun _ _ => r_sneq
theorem px_sadd {t : TypeId} {x y : Operand} {a b : ByteArray} (h : a.size + b.size ≤ 9223372036854775807) {w : World} {K : Value → World → Prop} : (std Tryz.prog).step (sBin .add t x y (.string a) (.string b)) w K = K (.string (a ++ b)) w := step_run (r_sadd h)
theorem sx_sadd {t : TypeId} {x y : Operand} {a b : ByteArray} (h : a.size + b.size ≤ 9223372036854775807) {S : World → Prop} {k : Value → Prop} (hne : ∃ w, S w) : (std Tryz.prog).stepS S (sBin .add t x y (.string a) (.string b)) k = k (.string (a ++ b)) := stepS_run hne fun _ _ => r_sadd h
theorem px_not {b : Bool}  {w : World} {K : Value → World → Prop} : (std Tryz.prog).step (sUn .not (.bool b)) w K = K (.bool (!b)) w := step_run (r_not)
theorem sx_not {b : Bool}  {S : World → Prop} {k : Value → Prop} (hne : ∃ w, S w) : (std Tryz.prog).stepS S (sUn .not (.bool b)) k = k (.bool (!b)) := stepS_run hne fun _ _ => r_not
theorem px_neg {q : IntKind} {a : Int}  {w : World} {K : Value → World → Prop} : (std Tryz.prog).step (sUn .neg (.int q a)) w K = K (.int q (q.wrap (0 - a))) w := step_run (r_neg)
theorem sx_neg {q : IntKind} {a : Int}  {S : World → Prop} {k : Value → Prop} (hne : ∃ w, S w) : (std Tryz.prog).stepS S (sUn .neg (.int q a)) k = k (.int q (q.wrap (0 - a))) := stepS_run hne fun _ _ => r_neg
theorem px_inv {q : IntKind} {a : Int}  {w : World} {K : Value → World → Prop} : (std Tryz.prog).step (sUn .xor (.int q a)) w K = K (.int q (bitOp .xor q (if q.signed then -1 else q.max) a)) w := step_run (r_inv)
theorem sx_inv {q : IntKind} {a : Int}  {S : World → Prop} {k : Value → Prop} (hne : ∃ w, S w) : (std Tryz.prog).stepS S (sUn .xor (.int q a)) k = k (.int q (bitOp .xor q (if q.signed then -1 else q.max) a)) := stepS_run hne fun _ _ => r_inv
theorem px_nilc {a : Addr}  {w : World} {K : Value → World → Prop} : (std Tryz.prog).step (sNil (.pointer (some a))) w K = K (.pointer (some a)) w := step_run (r_nil)
theorem sx_nilc {a : Addr}  {S : World → Prop} {k : Value → Prop} (hne : ∃ w, S w) : (std Tryz.prog).stepS S (sNil (.pointer (some a))) k = k (.pointer (some a)) := stepS_run hne fun _ _ => r_nil
theorem px_ext20 {a b : Value}  {w : World} {K : Value → World → Prop} : (std Tryz.prog).step (sExtract (.tuple #[a, b]) 0) w K = K (a) w := step_run (r_ext20)
theorem sx_ext20 {a b : Value}  {S : World → Prop} {k : Value → Prop} (hne : ∃ w, S w) : (std Tryz.prog).stepS S (sExtract (.tuple #[a, b]) 0) k = k (a) := stepS_run hne fun _ _ => r_ext20
theorem px_ext21 {a b : Value}  {w : World} {K : Value → World → Prop} : (std Tryz.prog).step (sExtract (.tuple #[a, b]) 1) w K = K (b) w := step_run (r_ext21)
theorem sx_ext21 {a b : Value}  {S : World → Prop} {k : Value → Prop} (hne : ∃ w, S w) : (std Tryz.prog).stepS S (sExtract (.tuple #[a, b]) 1) k = k (b) := stepS_run hne fun _ _ => r_ext21
theorem px_ext30 {a b c : Value}  {w : World} {K : Value → World → Prop} : (std Tryz.prog).step (sExtract (.tuple #[a, b, c]) 0) w K = K (a) w := step_run (r_ext30)
theorem sx_ext30 {a b c : Value}  {S : World → Prop} {k : Value → Prop} (hne : ∃ w, S w) : (std Tryz.prog).stepS S (sExtract (.tuple #[a, b, c]) 0) k = k (a) := stepS_run hne fun _ _ => r_ext30
theorem px_ext31 {a b c : Value}  {w : World} {K : Value → World → Prop} : (std Tryz.prog).step (sExtract (.tuple #[a, b, c]) 1) w K = K (b) w := step_run (r_ext31)
theorem sx_ext31 {a b c : Value}  {S : World → Prop} {k : Value → Prop} (hne : ∃ w, S w) : (std Tryz.prog).stepS S (sExtract (.tuple #[a, b, c]) 1) k = k (b) := stepS_run hne fun _ _ => r_ext31
theorem px_ext32 {a b c : Value}  {w : World} {K : Value → World → Prop} : (std Tryz.prog).step (sExtract (.tuple #[a, b, c]) 2) w K = K (c) w := step_run (r_ext32)
theorem sx_ext32 {a b c : Value}  {S : World → Prop} {k : Value → Prop} (hne : ∃ w, S w) : (std Tryz.prog).stepS S (sExtract (.tuple #[a, b, c]) 2) k = k (c) := stepS_run hne fun _ _ => r_ext32
theorem px_min {ats : Array TypeId} {ty : TypeId} {c : List Bool} {q : IntKind} {a b : Int}  {w : World} {K : Value → World → Prop} : (std Tryz.prog).step (sBuiltin .min ats ty c [.int q a, .int q b]) w K = K (.int q (if b < a then b else a)) w := step_run (r_min)
theorem sx_min {ats : Array TypeId} {ty : TypeId} {c : List Bool} {q : IntKind} {a b : Int}  {S : World → Prop} {k : Value → Prop} (hne : ∃ w, S w) : (std Tryz.prog).stepS S (sBuiltin .min ats ty c [.int q a, .int q b]) k = k (.int q (if b < a then b else a)) := stepS_run hne fun _ _ => r_min
theorem px_max {ats : Array TypeId} {ty : TypeId} {c : List Bool} {q : IntKind} {a b : Int}  {w : World} {K : Value → World → Prop} : (std Tryz.prog).step (sBuiltin .max ats ty c [.int q a, .int q b]) w K = K (.int q (if a < b then b else a)) w := step_run (r_max)
theorem sx_max {ats : Array TypeId} {ty : TypeId} {c : List Bool} {q : IntKind} {a b : Int}  {S : World → Prop} {k : Value → Prop} (hne : ∃ w, S w) : (std Tryz.prog).stepS S (sBuiltin .max ats ty c [.int q a, .int q b]) k = k (.int q (if a < b then b else a)) := stepS_run hne fun _ _ => r_max
theorem px_peql100 {x y : Operand} {a : Addr}  {w : World} {K : Value → World → Prop} : (std Tryz.prog).step (sBin .eql 100 x y (.pointer (some a)) (.pointer none)) w K = K (.bool false) w := step_run (rpeql100)
theorem sx_peql100 {x y : Operand} {a : Addr}  {S : World → Prop} {k : Value → Prop} (hne : ∃ w, S w) : (std Tryz.prog).stepS S (sBin .eql 100 x y (.pointer (some a)) (.pointer none)) k = k (.bool false) := stepS_run hne fun _ _ => rpeql100
theorem px_neql100 {x y : Operand}  {w : World} {K : Value → World → Prop} : (std Tryz.prog).step (sBin .eql 100 x y (.pointer none) (.pointer none)) w K = K (.bool true) w := step_run (rneql100)
theorem sx_neql100 {x y : Operand}  {S : World → Prop} {k : Value → Prop} (hne : ∃ w, S w) : (std Tryz.prog).stepS S (sBin .eql 100 x y (.pointer none) (.pointer none)) k = k (.bool true) := stepS_run hne fun _ _ => rneql100
theorem px_peql23 {x y : Operand} {a : Addr}  {w : World} {K : Value → World → Prop} : (std Tryz.prog).step (sBin .eql 23 x y (.pointer (some a)) (.pointer none)) w K = K (.bool false) w := step_run (rpeql23)
theorem sx_peql23 {x y : Operand} {a : Addr}  {S : World → Prop} {k : Value → Prop} (hne : ∃ w, S w) : (std Tryz.prog).stepS S (sBin .eql 23 x y (.pointer (some a)) (.pointer none)) k = k (.bool false) := stepS_run hne fun _ _ => rpeql23
theorem px_neql23 {x y : Operand}  {w : World} {K : Value → World → Prop} : (std Tryz.prog).step (sBin .eql 23 x y (.pointer none) (.pointer none)) w K = K (.bool true) w := step_run (rneql23)
theorem sx_neql23 {x y : Operand}  {S : World → Prop} {k : Value → Prop} (hne : ∃ w, S w) : (std Tryz.prog).stepS S (sBin .eql 23 x y (.pointer none) (.pointer none)) k = k (.bool true) := stepS_run hne fun _ _ => rneql23
theorem px_beql4 {x y : Operand} {a b : Bool}  {w : World} {K : Value → World → Prop} : (std Tryz.prog).step (sBin .eql 4 x y (.bool a) (.bool b)) w K = K (.bool (a == b)) w := step_run (r_beql u4)
theorem sx_beql4 {x y : Operand} {a b : Bool}  {S : World → Prop} {k : Value → Prop} (hne : ∃ w, S w) : (std Tryz.prog).stepS S (sBin .eql 4 x y (.bool a) (.bool b)) k = k (.bool (a == b)) := stepS_run hne fun _ _ => r_beql u4
theorem px_peql92 {x y : Operand} {a : Addr}  {w : World} {K : Value → World → Prop} : (std Tryz.prog).step (sBin .eql 92 x y (.pointer (some a)) (.pointer none)) w K = K (.bool false) w := step_run (rpeql92)
theorem sx_peql92 {x y : Operand} {a : Addr}  {S : World → Prop} {k : Value → Prop} (hne : ∃ w, S w) : (std Tryz.prog).stepS S (sBin .eql 92 x y (.pointer (some a)) (.pointer none)) k = k (.bool false) := stepS_run hne fun _ _ => rpeql92
theorem px_neql92 {x y : Operand}  {w : World} {K : Value → World → Prop} : (std Tryz.prog).step (sBin .eql 92 x y (.pointer none) (.pointer none)) w K = K (.bool true) w := step_run (rneql92)
theorem sx_neql92 {x y : Operand}  {S : World → Prop} {k : Value → Prop} (hne : ∃ w, S w) : (std Tryz.prog).stepS S (sBin .eql 92 x y (.pointer none) (.pointer none)) k = k (.bool true) := stepS_run hne fun _ _ => rneql92
theorem px_pneq23 {x y : Operand} {a : Addr}  {w : World} {K : Value → World → Prop} : (std Tryz.prog).step (sBin .neq 23 x y (.pointer (some a)) (.pointer none)) w K = K (.bool true) w := step_run (rpneq23)
theorem sx_pneq23 {x y : Operand} {a : Addr}  {S : World → Prop} {k : Value → Prop} (hne : ∃ w, S w) : (std Tryz.prog).stepS S (sBin .neq 23 x y (.pointer (some a)) (.pointer none)) k = k (.bool true) := stepS_run hne fun _ _ => rpneq23
theorem px_nneq23 {x y : Operand}  {w : World} {K : Value → World → Prop} : (std Tryz.prog).step (sBin .neq 23 x y (.pointer none) (.pointer none)) w K = K (.bool false) w := step_run (rnneq23)
theorem sx_nneq23 {x y : Operand}  {S : World → Prop} {k : Value → Prop} (hne : ∃ w, S w) : (std Tryz.prog).stepS S (sBin .neq 23 x y (.pointer none) (.pointer none)) k = k (.bool false) := stepS_run hne fun _ _ => rnneq23
theorem px_len109 {ty : TypeId} {c : List Bool} {A : Option Addr} {n m : Nat}  {w : World} {K : Value → World → Prop} : (std Tryz.prog).step (sBuiltin .len #[109] ty c [.slice A n m]) w K = K (.int .i64 n) w := step_run (r_lens u109)
theorem sx_len109 {ty : TypeId} {c : List Bool} {A : Option Addr} {n m : Nat}  {S : World → Prop} {k : Value → Prop} (hne : ∃ w, S w) : (std Tryz.prog).stepS S (sBuiltin .len #[109] ty c [.slice A n m]) k = k (.int .i64 n) := stepS_run hne fun _ _ => r_lens u109
theorem px_len22 {ty : TypeId} {c : List Bool} {A : Option Addr} {n m : Nat}  {w : World} {K : Value → World → Prop} : (std Tryz.prog).step (sBuiltin .len #[22] ty c [.slice A n m]) w K = K (.int .i64 n) w := step_run (r_lens u22)
theorem sx_len22 {ty : TypeId} {c : List Bool} {A : Option Addr} {n m : Nat}  {S : World → Prop} {k : Value → Prop} (hne : ∃ w, S w) : (std Tryz.prog).stepS S (sBuiltin .len #[22] ty c [.slice A n m]) k = k (.int .i64 n) := stepS_run hne fun _ _ => r_lens u22
theorem px_len25 {ty : TypeId} {c : List Bool} {A : Option Addr} {n m : Nat}  {w : World} {K : Value → World → Prop} : (std Tryz.prog).step (sBuiltin .len #[25] ty c [.slice A n m]) w K = K (.int .i64 n) w := step_run (r_lens u25)
theorem sx_len25 {ty : TypeId} {c : List Bool} {A : Option Addr} {n m : Nat}  {S : World → Prop} {k : Value → Prop} (hne : ∃ w, S w) : (std Tryz.prog).stepS S (sBuiltin .len #[25] ty c [.slice A n m]) k = k (.int .i64 n) := stepS_run hne fun _ _ => r_lens u25
theorem px_len39 {ty : TypeId} {c : List Bool} {A : Option Addr} {n m : Nat}  {w : World} {K : Value → World → Prop} : (std Tryz.prog).step (sBuiltin .len #[39] ty c [.slice A n m]) w K = K (.int .i64 n) w := step_run (r_lens u39)
theorem sx_len39 {ty : TypeId} {c : List Bool} {A : Option Addr} {n m : Nat}  {S : World → Prop} {k : Value → Prop} (hne : ∃ w, S w) : (std Tryz.prog).stepS S (sBuiltin .len #[39] ty c [.slice A n m]) k = k (.int .i64 n) := stepS_run hne fun _ _ => r_lens u39
theorem px_len44 {ty : TypeId} {c : List Bool} {A : Option Addr} {n m : Nat}  {w : World} {K : Value → World → Prop} : (std Tryz.prog).step (sBuiltin .len #[44] ty c [.slice A n m]) w K = K (.int .i64 n) w := step_run (r_lens u44)
theorem sx_len44 {ty : TypeId} {c : List Bool} {A : Option Addr} {n m : Nat}  {S : World → Prop} {k : Value → Prop} (hne : ∃ w, S w) : (std Tryz.prog).stepS S (sBuiltin .len #[44] ty c [.slice A n m]) k = k (.int .i64 n) := stepS_run hne fun _ _ => r_lens u44
theorem px_len50 {ty : TypeId} {c : List Bool} {A : Option Addr} {n m : Nat}  {w : World} {K : Value → World → Prop} : (std Tryz.prog).step (sBuiltin .len #[50] ty c [.slice A n m]) w K = K (.int .i64 n) w := step_run (r_lens u50)
theorem sx_len50 {ty : TypeId} {c : List Bool} {A : Option Addr} {n m : Nat}  {S : World → Prop} {k : Value → Prop} (hne : ∃ w, S w) : (std Tryz.prog).stepS S (sBuiltin .len #[50] ty c [.slice A n m]) k = k (.int .i64 n) := stepS_run hne fun _ _ => r_lens u50
theorem px_len59 {ty : TypeId} {c : List Bool} {A : Option Addr} {n m : Nat}  {w : World} {K : Value → World → Prop} : (std Tryz.prog).step (sBuiltin .len #[59] ty c [.slice A n m]) w K = K (.int .i64 n) w := step_run (r_lens u59)
theorem sx_len59 {ty : TypeId} {c : List Bool} {A : Option Addr} {n m : Nat}  {S : World → Prop} {k : Value → Prop} (hne : ∃ w, S w) : (std Tryz.prog).stepS S (sBuiltin .len #[59] ty c [.slice A n m]) k = k (.int .i64 n) := stepS_run hne fun _ _ => r_lens u59
theorem px_len9 {ty : TypeId} {c : List Bool} {s : ByteArray}  {w : World} {K : Value → World → Prop} : (std Tryz.prog).step (sBuiltin .len #[9] ty c [.string s]) w K = K (.int .i64 s.size) w := step_run (r_lenstr u9)
theorem sx_len9 {ty : TypeId} {c : List Bool} {s : ByteArray}  {S : World → Prop} {k : Value → Prop} (hne : ∃ w, S w) : (std Tryz.prog).stepS S (sBuiltin .len #[9] ty c [.string s]) k = k (.int .i64 s.size) := stepS_run hne fun _ _ => r_lenstr u9
theorem px_cv121_148 {q : IntKind} {n : Int}  {w : World} {K : Value → World → Prop} : (std Tryz.prog).step (sConv 121 148 (.int q n)) w K = K (.int .u32 (IntKind.wrap .u32 n)) w := step_run (r_conv u121 u148)
theorem sx_cv121_148 {q : IntKind} {n : Int}  {S : World → Prop} {k : Value → Prop} (hne : ∃ w, S w) : (std Tryz.prog).stepS S (sConv 121 148 (.int q n)) k = k (.int .u32 (IntKind.wrap .u32 n)) := stepS_run hne fun _ _ => r_conv u121 u148
theorem px_cv121_3 {q : IntKind} {n : Int}  {w : World} {K : Value → World → Prop} : (std Tryz.prog).step (sConv 121 3 (.int q n)) w K = K (.int .i64 (IntKind.wrap .i64 n)) w := step_run (r_conv u121 u3)
theorem sx_cv121_3 {q : IntKind} {n : Int}  {S : World → Prop} {k : Value → Prop} (hne : ∃ w, S w) : (std Tryz.prog).stepS S (sConv 121 3 (.int q n)) k = k (.int .i64 (IntKind.wrap .i64 n)) := stepS_run hne fun _ _ => r_conv u121 u3
theorem px_cv148_5 {q : IntKind} {n : Int}  {w : World} {K : Value → World → Prop} : (std Tryz.prog).step (sConv 148 5 (.int q n)) w K = K (.int .u8 (IntKind.wrap .u8 n)) w := step_run (r_conv u148 u5)
theorem sx_cv148_5 {q : IntKind} {n : Int}  {S : World → Prop} {k : Value → Prop} (hne : ∃ w, S w) : (std Tryz.prog).stepS S (sConv 148 5 (.int q n)) k = k (.int .u8 (IntKind.wrap .u8 n)) := stepS_run hne fun _ _ => r_conv u148 u5
theorem px_cv150_5 {q : IntKind} {n : Int}  {w : World} {K : Value → World → Prop} : (std Tryz.prog).step (sConv 150 5 (.int q n)) w K = K (.int .u8 (IntKind.wrap .u8 n)) w := step_run (r_conv u150 u5)
theorem sx_cv150_5 {q : IntKind} {n : Int}  {S : World → Prop} {k : Value → Prop} (hne : ∃ w, S w) : (std Tryz.prog).stepS S (sConv 150 5 (.int q n)) k = k (.int .u8 (IntKind.wrap .u8 n)) := stepS_run hne fun _ _ => r_conv u150 u5
theorem px_cv3_121 {q : IntKind} {n : Int}  {w : World} {K : Value → World → Prop} : (std Tryz.prog).step (sConv 3 121 (.int q n)) w K = K (.int .u64 (IntKind.wrap .u64 n)) w := step_run (r_conv u3 u121)
theorem sx_cv3_121 {q : IntKind} {n : Int}  {S : World → Prop} {k : Value → Prop} (hne : ∃ w, S w) : (std Tryz.prog).stepS S (sConv 3 121 (.int q n)) k = k (.int .u64 (IntKind.wrap .u64 n)) := stepS_run hne fun _ _ => r_conv u3 u121
theorem px_cv3_158 {q : IntKind} {n : Int}  {w : World} {K : Value → World → Prop} : (std Tryz.prog).step (sConv 3 158 (.int q n)) w K = K (.int .u64 (IntKind.wrap .u64 n)) w := step_run (r_conv u3 u158)
theorem sx_cv3_158 {q : IntKind} {n : Int}  {S : World → Prop} {k : Value → Prop} (hne : ∃ w, S w) : (std Tryz.prog).stepS S (sConv 3 158 (.int q n)) k = k (.int .u64 (IntKind.wrap .u64 n)) := stepS_run hne fun _ _ => r_conv u3 u158
theorem px_cv5_3 {q : IntKind} {n : Int}  {w : World} {K : Value → World → Prop} : (std Tryz.prog).step (sConv 5 3 (.int q n)) w K = K (.int .i64 (IntKind.wrap .i64 n)) w := step_run (r_conv u5 u3)
theorem sx_cv5_3 {q : IntKind} {n : Int}  {S : World → Prop} {k : Value → Prop} (hne : ∃ w, S w) : (std Tryz.prog).stepS S (sConv 5 3 (.int q n)) k = k (.int .i64 (IntKind.wrap .i64 n)) := stepS_run hne fun _ _ => r_conv u5 u3
theorem px_fa104_0 {a : Addr}  {w : World} {K : Value → World → Prop} : (std Tryz.prog).step (sFieldAddr 104 (.pointer (some a)) 0) w K = K (.pointer (some (a))) w := step_run (rfa104_0)
theorem sx_fa104_0 {a : Addr}  {S : World → Prop} {k : Value → Prop} (hne : ∃ w, S w) : (std Tryz.prog).stepS S (sFieldAddr 104 (.pointer (some a)) 0) k = k (.pointer (some (a))) := stepS_run hne fun _ _ => rfa104_0
theorem px_fa127_0 {a : Addr}  {w : World} {K : Value → World → Prop} : (std Tryz.prog).step (sFieldAddr 127 (.pointer (some a)) 0) w K = K (.pointer (some (a))) w := step_run (rfa127_0)
theorem sx_fa127_0 {a : Addr}  {S : World → Prop} {k : Value → Prop} (hne : ∃ w, S w) : (std Tryz.prog).stepS S (sFieldAddr 127 (.pointer (some a)) 0) k = k (.pointer (some (a))) := stepS_run hne fun _ _ => rfa127_0
theorem px_fa129_0 {a : Addr}  {w : World} {K : Value → World → Prop} : (std Tryz.prog).step (sFieldAddr 129 (.pointer (some a)) 0) w K = K (.pointer (some (a))) w := step_run (rfa129_0)
theorem sx_fa129_0 {a : Addr}  {S : World → Prop} {k : Value → Prop} (hne : ∃ w, S w) : (std Tryz.prog).stepS S (sFieldAddr 129 (.pointer (some a)) 0) k = k (.pointer (some (a))) := stepS_run hne fun _ _ => rfa129_0
theorem px_fa129_1 {a : Addr}  {w : World} {K : Value → World → Prop} : (std Tryz.prog).step (sFieldAddr 129 (.pointer (some a)) 1) w K = K (.pointer (some (a.add 1))) w := step_run (rfa129_1)
theorem sx_fa129_1 {a : Addr}  {S : World → Prop} {k : Value → Prop} (hne : ∃ w, S w) : (std Tryz.prog).stepS S (sFieldAddr 129 (.pointer (some a)) 1) k = k (.pointer (some (a.add 1))) := stepS_run hne fun _ _ => rfa129_1
theorem px_fa27_0 {a : Addr}  {w : World} {K : Value → World → Prop} : (std Tryz.prog).step (sFieldAddr 27 (.pointer (some a)) 0) w K = K (.pointer (some (a))) w := step_run (rfa27_0)
theorem sx_fa27_0 {a : Addr}  {S : World → Prop} {k : Value → Prop} (hne : ∃ w, S w) : (std Tryz.prog).stepS S (sFieldAddr 27 (.pointer (some a)) 0) k = k (.pointer (some (a))) := stepS_run hne fun _ _ => rfa27_0
theorem px_fa27_1 {a : Addr}  {w : World} {K : Value → World → Prop} : (std Tryz.prog).step (sFieldAddr 27 (.pointer (some a)) 1) w K = K (.pointer (some (a.add 1))) w := step_run (rfa27_1)
theorem sx_fa27_1 {a : Addr}  {S : World → Prop} {k : Value → Prop} (hne : ∃ w, S w) : (std Tryz.prog).stepS S (sFieldAddr 27 (.pointer (some a)) 1) k = k (.pointer (some (a.add 1))) := stepS_run hne fun _ _ => rfa27_1
theorem px_fa31_0 {a : Addr}  {w : World} {K : Value → World → Prop} : (std Tryz.prog).step (sFieldAddr 31 (.pointer (some a)) 0) w K = K (.pointer (some (a))) w := step_run (rfa31_0)
theorem sx_fa31_0 {a : Addr}  {S : World → Prop} {k : Value → Prop} (hne : ∃ w, S w) : (std Tryz.prog).stepS S (sFieldAddr 31 (.pointer (some a)) 0) k = k (.pointer (some (a))) := stepS_run hne fun _ _ => rfa31_0
theorem px_fa31_1 {a : Addr}  {w : World} {K : Value → World → Prop} : (std Tryz.prog).step (sFieldAddr 31 (.pointer (some a)) 1) w K = K (.pointer (some (a.add 1))) w := step_run (rfa31_1)
theorem sx_fa31_1 {a : Addr}  {S : World → Prop} {k : Value → Prop} (hne : ∃ w, S w) : (std Tryz.prog).stepS S (sFieldAddr 31 (.pointer (some a)) 1) k = k (.pointer (some (a.add 1))) := stepS_run hne fun _ _ => rfa31_1
theorem px_fa33_0 {a : Addr}  {w : World} {K : Value → World → Prop} : (std Tryz.prog).step (sFieldAddr 33 (.pointer (some a)) 0) w K = K (.pointer (some (a))) w := step_run (rfa33_0)
theorem sx_fa33_0 {a : Addr}  {S : World → Prop} {k : Value → Prop} (hne : ∃ w, S w) : (std Tryz.prog).stepS S (sFieldAddr 33 (.pointer (some a)) 0) k = k (.pointer (some (a))) := stepS_run hne fun _ _ => rfa33_0
theorem px_fa33_1 {a : Addr}  {w : World} {K : Value → World → Prop} : (std Tryz.prog).step (sFieldAddr 33 (.pointer (some a)) 1) w K = K (.pointer (some (a.add 1))) w := step_run (rfa33_1)
theorem sx_fa33_1 {a : Addr}  {S : World → Prop} {k : Value → Prop} (hne : ∃ w, S w) : (std Tryz.prog).stepS S (sFieldAddr 33 (.pointer (some a)) 1) k = k (.pointer (some (a.add 1))) := stepS_run hne fun _ _ => rfa33_1
theorem px_fa33_2 {a : Addr}  {w : World} {K : Value → World → Prop} : (std Tryz.prog).step (sFieldAddr 33 (.pointer (some a)) 2) w K = K (.pointer (some (a.add 2))) w := step_run (rfa33_2)
theorem sx_fa33_2 {a : Addr}  {S : World → Prop} {k : Value → Prop} (hne : ∃ w, S w) : (std Tryz.prog).stepS S (sFieldAddr 33 (.pointer (some a)) 2) k = k (.pointer (some (a.add 2))) := stepS_run hne fun _ _ => rfa33_2
theorem px_fa53_0 {a : Addr}  {w : World} {K : Value → World → Prop} : (std Tryz.prog).step (sFieldAddr 53 (.pointer (some a)) 0) w K = K (.pointer (some (a))) w := step_run (rfa53_0)
theorem sx_fa53_0 {a : Addr}  {S : World → Prop} {k : Value → Prop} (hne : ∃ w, S w) : (std Tryz.prog).stepS S (sFieldAddr 53 (.pointer (some a)) 0) k = k (.pointer (some (a))) := stepS_run hne fun _ _ => rfa53_0
theorem px_fa53_1 {a : Addr}  {w : World} {K : Value → World → Prop} : (std Tryz.prog).step (sFieldAddr 53 (.pointer (some a)) 1) w K = K (.pointer (some (a.add 1))) w := step_run (rfa53_1)
theorem sx_fa53_1 {a : Addr}  {S : World → Prop} {k : Value → Prop} (hne : ∃ w, S w) : (std Tryz.prog).stepS S (sFieldAddr 53 (.pointer (some a)) 1) k = k (.pointer (some (a.add 1))) := stepS_run hne fun _ _ => rfa53_1
theorem px_fa67_0 {a : Addr}  {w : World} {K : Value → World → Prop} : (std Tryz.prog).step (sFieldAddr 67 (.pointer (some a)) 0) w K = K (.pointer (some (a))) w := step_run (rfa67_0)
theorem sx_fa67_0 {a : Addr}  {S : World → Prop} {k : Value → Prop} (hne : ∃ w, S w) : (std Tryz.prog).stepS S (sFieldAddr 67 (.pointer (some a)) 0) k = k (.pointer (some (a))) := stepS_run hne fun _ _ => rfa67_0
theorem px_fa67_1 {a : Addr}  {w : World} {K : Value → World → Prop} : (std Tryz.prog).step (sFieldAddr 67 (.pointer (some a)) 1) w K = K (.pointer (some (a.add 1))) w := step_run (rfa67_1)
theorem sx_fa67_1 {a : Addr}  {S : World → Prop} {k : Value → Prop} (hne : ∃ w, S w) : (std Tryz.prog).stepS S (sFieldAddr 67 (.pointer (some a)) 1) k = k (.pointer (some (a.add 1))) := stepS_run hne fun _ _ => rfa67_1
theorem px_fa78_0 {a : Addr}  {w : World} {K : Value → World → Prop} : (std Tryz.prog).step (sFieldAddr 78 (.pointer (some a)) 0) w K = K (.pointer (some (a))) w := step_run (rfa78_0)
theorem sx_fa78_0 {a : Addr}  {S : World → Prop} {k : Value → Prop} (hne : ∃ w, S w) : (std Tryz.prog).stepS S (sFieldAddr 78 (.pointer (some a)) 0) k = k (.pointer (some (a))) := stepS_run hne fun _ _ => rfa78_0
theorem px_fa78_1 {a : Addr}  {w : World} {K : Value → World → Prop} : (std Tryz.prog).step (sFieldAddr 78 (.pointer (some a)) 1) w K = K (.pointer (some (a.add 1))) w := step_run (rfa78_1)
theorem sx_fa78_1 {a : Addr}  {S : World → Prop} {k : Value → Prop} (hne : ∃ w, S w) : (std Tryz.prog).stepS S (sFieldAddr 78 (.pointer (some a)) 1) k = k (.pointer (some (a.add 1))) := stepS_run hne fun _ _ => rfa78_1
theorem px_fa85_0 {a : Addr}  {w : World} {K : Value → World → Prop} : (std Tryz.prog).step (sFieldAddr 85 (.pointer (some a)) 0) w K = K (.pointer (some (a))) w := step_run (rfa85_0)
theorem sx_fa85_0 {a : Addr}  {S : World → Prop} {k : Value → Prop} (hne : ∃ w, S w) : (std Tryz.prog).stepS S (sFieldAddr 85 (.pointer (some a)) 0) k = k (.pointer (some (a))) := stepS_run hne fun _ _ => rfa85_0
theorem px_fa85_1 {a : Addr}  {w : World} {K : Value → World → Prop} : (std Tryz.prog).step (sFieldAddr 85 (.pointer (some a)) 1) w K = K (.pointer (some (a.add 1))) w := step_run (rfa85_1)
theorem sx_fa85_1 {a : Addr}  {S : World → Prop} {k : Value → Prop} (hne : ∃ w, S w) : (std Tryz.prog).stepS S (sFieldAddr 85 (.pointer (some a)) 1) k = k (.pointer (some (a.add 1))) := stepS_run hne fun _ _ => rfa85_1
theorem px_fa85_2 {a : Addr}  {w : World} {K : Value → World → Prop} : (std Tryz.prog).step (sFieldAddr 85 (.pointer (some a)) 2) w K = K (.pointer (some (a.add 2))) w := step_run (rfa85_2)
theorem sx_fa85_2 {a : Addr}  {S : World → Prop} {k : Value → Prop} (hne : ∃ w, S w) : (std Tryz.prog).stepS S (sFieldAddr 85 (.pointer (some a)) 2) k = k (.pointer (some (a.add 2))) := stepS_run hne fun _ _ => rfa85_2
theorem px_fa85_3 {a : Addr}  {w : World} {K : Value → World → Prop} : (std Tryz.prog).step (sFieldAddr 85 (.pointer (some a)) 3) w K = K (.pointer (some (a.add 3))) w := step_run (rfa85_3)
theorem sx_fa85_3 {a : Addr}  {S : World → Prop} {k : Value → Prop} (hne : ∃ w, S w) : (std Tryz.prog).stepS S (sFieldAddr 85 (.pointer (some a)) 3) k = k (.pointer (some (a.add 3))) := stepS_run hne fun _ _ => rfa85_3
theorem px_fa95_0 {a : Addr}  {w : World} {K : Value → World → Prop} : (std Tryz.prog).step (sFieldAddr 95 (.pointer (some a)) 0) w K = K (.pointer (some (a))) w := step_run (rfa95_0)
theorem sx_fa95_0 {a : Addr}  {S : World → Prop} {k : Value → Prop} (hne : ∃ w, S w) : (std Tryz.prog).stepS S (sFieldAddr 95 (.pointer (some a)) 0) k = k (.pointer (some (a))) := stepS_run hne fun _ _ => rfa95_0
theorem px_fa95_1 {a : Addr}  {w : World} {K : Value → World → Prop} : (std Tryz.prog).step (sFieldAddr 95 (.pointer (some a)) 1) w K = K (.pointer (some (a.add 1))) w := step_run (rfa95_1)
theorem sx_fa95_1 {a : Addr}  {S : World → Prop} {k : Value → Prop} (hne : ∃ w, S w) : (std Tryz.prog).stepS S (sFieldAddr 95 (.pointer (some a)) 1) k = k (.pointer (some (a.add 1))) := stepS_run hne fun _ _ => rfa95_1
theorem px_fa95_2 {a : Addr}  {w : World} {K : Value → World → Prop} : (std Tryz.prog).step (sFieldAddr 95 (.pointer (some a)) 2) w K = K (.pointer (some (a.add 2))) w := step_run (rfa95_2)
theorem sx_fa95_2 {a : Addr}  {S : World → Prop} {k : Value → Prop} (hne : ∃ w, S w) : (std Tryz.prog).stepS S (sFieldAddr 95 (.pointer (some a)) 2) k = k (.pointer (some (a.add 2))) := stepS_run hne fun _ _ => rfa95_2
theorem px_ix109 {a : Addr} {n c i : Nat} (h : i < n) {w : World} {K : Value → World → Prop} : (std Tryz.prog).step (sIndexAddr 109 (.slice (some a) n c) (.int .i64 (i : Nat))) w K = K (.pointer (some (a.add (i)))) w := step_run (rix109 h)
theorem sx_ix109 {a : Addr} {n c i : Nat} (h : i < n) {S : World → Prop} {k : Value → Prop} (hne : ∃ w, S w) : (std Tryz.prog).stepS S (sIndexAddr 109 (.slice (some a) n c) (.int .i64 (i : Nat))) k = k (.pointer (some (a.add (i)))) := stepS_run hne fun _ _ => rix109 h
theorem px_xa137 {a : Addr} {i : Nat} (h : i < 6) {w : World} {K : Value → World → Prop} : (std Tryz.prog).step (sIndexAddr 137 (.pointer (some a)) (.int .i64 (i : Nat))) w K = K (.pointer (some (a.add (i)))) w := step_run (rxa137 h)
theorem sx_xa137 {a : Addr} {i : Nat} (h : i < 6) {S : World → Prop} {k : Value → Prop} (hne : ∃ w, S w) : (std Tryz.prog).stepS S (sIndexAddr 137 (.pointer (some a)) (.int .i64 (i : Nat))) k = k (.pointer (some (a.add (i)))) := stepS_run hne fun _ _ => rxa137 h
theorem px_xa138 {a : Addr} {i : Nat} (h : i < 6) {w : World} {K : Value → World → Prop} : (std Tryz.prog).step (sIndexAddr 138 (.pointer (some a)) (.int .i64 (i : Nat))) w K = K (.pointer (some (a.add (i * 6)))) w := step_run (rxa138 h)
theorem sx_xa138 {a : Addr} {i : Nat} (h : i < 6) {S : World → Prop} {k : Value → Prop} (hne : ∃ w, S w) : (std Tryz.prog).stepS S (sIndexAddr 138 (.pointer (some a)) (.int .i64 (i : Nat))) k = k (.pointer (some (a.add (i * 6)))) := stepS_run hne fun _ _ => rxa138 h
theorem px_ix22 {a : Addr} {n c i : Nat} (h : i < n) {w : World} {K : Value → World → Prop} : (std Tryz.prog).step (sIndexAddr 22 (.slice (some a) n c) (.int .i64 (i : Nat))) w K = K (.pointer (some (a.add (i * 4)))) w := step_run (rix22 h)
theorem sx_ix22 {a : Addr} {n c i : Nat} (h : i < n) {S : World → Prop} {k : Value → Prop} (hne : ∃ w, S w) : (std Tryz.prog).stepS S (sIndexAddr 22 (.slice (some a) n c) (.int .i64 (i : Nat))) k = k (.pointer (some (a.add (i * 4)))) := stepS_run hne fun _ _ => rix22 h
theorem px_ix25 {a : Addr} {n c i : Nat} (h : i < n) {w : World} {K : Value → World → Prop} : (std Tryz.prog).step (sIndexAddr 25 (.slice (some a) n c) (.int .i64 (i : Nat))) w K = K (.pointer (some (a.add (i * 4)))) w := step_run (rix25 h)
theorem sx_ix25 {a : Addr} {n c i : Nat} (h : i < n) {S : World → Prop} {k : Value → Prop} (hne : ∃ w, S w) : (std Tryz.prog).stepS S (sIndexAddr 25 (.slice (some a) n c) (.int .i64 (i : Nat))) k = k (.pointer (some (a.add (i * 4)))) := stepS_run hne fun _ _ => rix25 h
theorem px_ix39 {a : Addr} {n c i : Nat} (h : i < n) {w : World} {K : Value → World → Prop} : (std Tryz.prog).step (sIndexAddr 39 (.slice (some a) n c) (.int .i64 (i : Nat))) w K = K (.pointer (some (a.add (i * 2)))) w := step_run (rix39 h)
theorem sx_ix39 {a : Addr} {n c i : Nat} (h : i < n) {S : World → Prop} {k : Value → Prop} (hne : ∃ w, S w) : (std Tryz.prog).stepS S (sIndexAddr 39 (.slice (some a) n c) (.int .i64 (i : Nat))) k = k (.pointer (some (a.add (i * 2)))) := stepS_run hne fun _ _ => rix39 h
theorem px_ix44 {a : Addr} {n c i : Nat} (h : i < n) {w : World} {K : Value → World → Prop} : (std Tryz.prog).step (sIndexAddr 44 (.slice (some a) n c) (.int .i64 (i : Nat))) w K = K (.pointer (some (a.add (i)))) w := step_run (rix44 h)
theorem sx_ix44 {a : Addr} {n c i : Nat} (h : i < n) {S : World → Prop} {k : Value → Prop} (hne : ∃ w, S w) : (std Tryz.prog).stepS S (sIndexAddr 44 (.slice (some a) n c) (.int .i64 (i : Nat))) k = k (.pointer (some (a.add (i)))) := stepS_run hne fun _ _ => rix44 h
theorem px_ix50 {a : Addr} {n c i : Nat} (h : i < n) {w : World} {K : Value → World → Prop} : (std Tryz.prog).step (sIndexAddr 50 (.slice (some a) n c) (.int .i64 (i : Nat))) w K = K (.pointer (some (a.add (i * 3)))) w := step_run (rix50 h)
theorem sx_ix50 {a : Addr} {n c i : Nat} (h : i < n) {S : World → Prop} {k : Value → Prop} (hne : ∃ w, S w) : (std Tryz.prog).stepS S (sIndexAddr 50 (.slice (some a) n c) (.int .i64 (i : Nat))) k = k (.pointer (some (a.add (i * 3)))) := stepS_run hne fun _ _ => rix50 h
theorem px_ix59 {a : Addr} {n c i : Nat} (h : i < n) {w : World} {K : Value → World → Prop} : (std Tryz.prog).step (sIndexAddr 59 (.slice (some a) n c) (.int .i64 (i : Nat))) w K = K (.pointer (some (a.add (i * 2)))) w := step_run (rix59 h)
theorem sx_ix59 {a : Addr} {n c i : Nat} (h : i < n) {S : World → Prop} {k : Value → Prop} (hne : ∃ w, S w) : (std Tryz.prog).stepS S (sIndexAddr 59 (.slice (some a) n c) (.int .i64 (i : Nat))) k = k (.pointer (some (a.add (i * 2)))) := stepS_run hne fun _ _ => rix59 h
/-- the rules for single steps, all at once -/
theorem PX : (∀ {t : TypeId} {x y : Operand} {q : IntKind} {a b : Int}  {w : World} {K : Value → World → Prop}, (std Tryz.prog).step (sBin .add t x y (.int q a) (.int q b)) w K = K (.int q (q.wrap (a + b))) w) ∧
  (∀ {t : TypeId} {x y : Operand} {q : IntKind} {a b : Int}  {w : World} {K : Value → World → Prop}, (std Tryz.prog).step (sBin .sub t x y (.int q a) (.int q b)) w K = K (.int q (q.wrap (a - b))) w) ∧
  (∀ {t : TypeId} {x y : Operand} {q : IntKind} {a b : Int}  {w : World} {K : Value → World → Prop}, (std Tryz.prog).step (sBin .mul t x y (.int q a) (.int q b)) w K = K (.int q (q.wrap (a * b))) w) ∧
  (∀ {t : TypeId} {x y : Operand} {q : IntKind} {a b : Int}  {w : World} {K : Value → World → Prop}, (std Tryz.prog).step (sBin .and t x y (.int q a) (.int q b)) w K = K (.int q (bitOp .and q a b)) w) ∧
  (∀ {t : TypeId} {x y : Operand} {q : IntKind} {a b : Int}  {w : World} {K : Value → World → Prop}, (std Tryz.prog).step (sBin .or t x y (.int q a) (.int q b)) w K = K (.int q (bitOp .or q a b)) w) ∧
  (∀ {t : TypeId} {x y : Operand} {q : IntKind} {a b : Int}  {w : World} {K : Value → World → Prop}, (std Tryz.prog).step (sBin .xor t x y (.int q a) (.int q b)) w K = K (.int q (bitOp .xor q a b)) w) ∧
  (∀ {t : TypeId} {x y : Operand} {q : IntKind} {a b : Int}  {w : World} {K : Value → World → Prop}, (std Tryz.prog).step (sBin .lss t x y (.int q a) (.int q b)) w K = K (.bool (decide (a < b))) w) ∧
  (∀ {t : TypeId} {x y : Operand} {q : IntKind} {a b : Int}  {w : World} {K : Value → World → Prop}, (std Tryz.prog).step (sBin .leq t x y (.int q a) (.int q b)) w K = K (.bool (decide (a ≤ b))) w) ∧
  (∀ {t : TypeId} {x y : Operand} {q : IntKind} {a b : Int}  {w : World} {K : Value → World → Prop}, (std Tryz.prog).step (sBin .gtr t x y (.int q a) (.int q b)) w K = K (.bool (decide (b < a))) w) ∧
  (∀ {t : TypeId} {x y : Operand} {q : IntKind} {a b : Int}  {w : World} {K : Value → World → Prop}, (std Tryz.prog).step (sBin .geq t x y (.int q a) (.int q b)) w K = K (.bool (decide (b ≤ a))) w) ∧
  (∀ {t : TypeId} {x y : Operand} {q : IntKind} {a b : Int}  {w : World} {K : Value → World → Prop}, (std Tryz.prog).step (sBin .eql t x y (.int q a) (.int q b)) w K = K (.bool (decide (a = b))) w) ∧
  (∀ {t : TypeId} {x y : Operand} {q : IntKind} {a b : Int}  {w : World} {K : Value → World → Prop}, (std Tryz.prog).step (sBin .neq t x y (.int q a) (.int q b)) w K = K (.bool (decide (a ≠ b))) w) ∧
  (∀ {t : TypeId} {x y : Operand} {q : IntKind} {a b : Int} (h : b ≠ 0) {w : World} {K : Value → World → Prop}, (std Tryz.prog).step (sBin .quo t x y (.int q a) (.int q b)) w K = K (.int q (q.wrap (a.tdiv b))) w) ∧
  (∀ {t : TypeId} {x y : Operand} {q : IntKind} {a b : Int} (h : b ≠ 0) {w : World} {K : Value → World → Prop}, (std Tryz.prog).step (sBin .rem t x y (.int q a) (.int q b)) w K = K (.int q (a.tmod b)) w) ∧
  (∀ {t : TypeId} {x y : Operand} {q q' : IntKind} {a b : Int} (h : ¬ b < 0) {w : World} {K : Value → World → Prop}, (std Tryz.prog).step (sBin .shl t x y (.int q a) (.int q' b)) w K = K (.int q (q.wrap (a * 2 ^ (min b.toNat q.bits)))) w) ∧
  (∀ {t : TypeId} {x y : Operand} {q q' : IntKind} {a b : Int} (h : ¬ b < 0) {w : World} {K : Value → World → Prop}, (std Tryz.prog).step (sBin .shr t x y (.int q a) (.int q' b)) w K = K (.int q (a.fdiv (2 ^ (min b.toNat q.bits)))) w) ∧
  (∀ {t : TypeId} {x y : Operand} {a b : ByteArray}  {w : World} {K : Value → World → Prop}, (std Tryz.prog).step (sBin .eql t x y (.string a) (.string b)) w K = K (.bool (decide (a = b))) w) ∧
  (∀ {t : TypeId} {x y : Operand} {a b : ByteArray}  {w : World} {K : Value → World → Prop}, (std Tryz.prog).step (sBin .neq t x y (.string a) (.string b)) w K = K (.bool (!decide (a = b))) w) ∧
  (∀ {t : TypeId} {x y : Operand} {a b : ByteArray} (h : a.size + b.size ≤ 9223372036854775807) {w : World} {K : Value → World → Prop}, (std Tryz.prog).step (sBin .add t x y (.string a) (.string b)) w K = K (.string (a ++ b)) w) ∧
  (∀ {b : Bool}  {w : World} {K : Value → World → Prop}, (std Tryz.prog).step (sUn .not (.bool b)) w K = K (.bool (!b)) w) ∧
  (∀ {q : IntKind} {a : Int}  {w : World} {K : Value → World → Prop}, (std Tryz.prog).step (sUn .neg (.int q a)) w K = K (.int q (q.wrap (0 - a))) w) ∧
  (∀ {q : IntKind} {a : Int}  {w : World} {K : Value → World → Prop}, (std Tryz.prog).step (sUn .xor (.int q a)) w K = K (.int q (bitOp .xor q (if q.signed then -1 else q.max) a)) w) ∧
  (∀ {a : Addr}  {w : World} {K : Value → World → Prop}, (std Tryz.prog).step (sNil (.pointer (some a))) w K = K (.pointer (some a)) w) ∧
  (∀ {a b : Value}  {w : World} {K : Value → World → Prop}, (std Tryz.prog).step (sExtract (.tuple #[a, b]) 0) w K = K (a) w) ∧
  (∀ {a b : Value}  {w : World} {K : Value → World → Prop}, (std Tryz.prog).step (sExtract (.tuple #[a, b]) 1) w K = K (b) w) ∧
  (∀ {a b c : Value}  {w : World} {K : Value → World → Prop}, (std Tryz.prog).step (sExtract (.tuple #[a, b, c]) 0) w K = K (a) w) ∧
  (∀ {a b c : Value}  {w : World} {K : Value → World → Prop}, (std Tryz.prog).step (sExtract (.tuple #[a, b, c]) 1) w K = K (b) w) ∧
  (∀ {a b c : Value}  {w : World} {K : Value → World → Prop}, (std Tryz.prog).step (sExtract (.tuple #[a, b, c]) 2) w K = K (c) w) ∧
  (∀ {ats : Array TypeId} {ty : TypeId} {c : List Bool} {q : IntKind} {a b : Int}  {w : World} {K : Value → World → Prop}, (std Tryz.prog).step (sBuiltin .min ats ty c [.int q a, .int q b]) w K = K (.int q (if b < a then b else a)) w) ∧
  (∀ {ats : Array TypeId} {ty : TypeId} {c : List Bool} {q : IntKind} {a b : Int}  {w : World} {K : Value → World → Prop}, (std Tryz.prog).step (sBuiltin .max ats ty c [.int q a, .int q b]) w K = K (.int q (if a < b then b else a)) w) ∧
  (∀ {x y : Operand} {a : Addr}  {w : World} {K : Value → World → Prop}, (std Tryz.prog).step (sBin .eql 100 x y (.pointer (some a)) (.pointer none)) w K = K (.bool false) w) ∧
  (∀ {x y : Operand}  {w : World} {K : Value → World → Prop}, (std Tryz.prog).step (sBin .eql 100 x y (.pointer none) (.pointer none)) w K = K (.bool true) w) ∧
  (∀ {x y : Operand} {a : Addr}  {w : World} {K : Value → World → Prop}, (std Tryz.prog).step (sBin .eql 23 x y (.pointer (some a)) (.pointer none)) w K = K (.bool false) w) ∧
  (∀ {x y : Operand}  {w : World} {K : Value → World → Prop}, (std Tryz.prog).step (sBin .eql 23 x y (.pointer none) (.pointer none)) w K = K (.bool true) w) ∧
  (∀ {x y : Operand} {a b : Bool}  {w : World} {K : Value → World → Prop}, (std Tryz.prog).step (sBin .eql 4 x y (.bool a) (.bool b)) w K = K (.bool (a == b)) w) ∧
  (∀ {x y : Operand} {a : Addr}  {w : World} {K : Value → World → Prop}, (std Tryz.prog).step (sBin .eql 92 x y (.pointer (some a)) (.pointer none)) w K = K (.bool false) w) ∧
  (∀ {x y : Operand}  {w : World} {K : Value → World → Prop}, (std Tryz.prog).step (sBin .eql 92 x y (.pointer none) (.pointer none)) w K = K (.bool true) w) ∧
  (∀ {x y : Operand} {a : Addr}  {w : World} {K : Value → World → Prop}, (std Tryz.prog).step (sBin .neq 23 x y (.pointer (some a)) (.pointer none)) w K = K (.bool true) w) ∧
  (∀ {x y : Operand}  {w : World} {K : Value → World → Prop}, (std Tryz.prog).step (sBin .neq 23 x y (.pointer none) (.pointer none)) w K = K (.bool false) w) ∧
  (∀ {ty : TypeId} {c : List Bool} {A : Option Addr} {n m : Nat}  {w : World} {K : Value → World → Prop}, (std Tryz.prog).step (sBuiltin .len #[109] ty c [.slice A n m]) w K = K (.int .i64 n) w) ∧
  (∀ {ty : TypeId} {c : List Bool} {A : Option Addr} {n m : Nat}  {w : World} {K : Value → World → Prop}, (std Tryz.prog).step (sBuiltin .len #[22] ty c [.slice A n m]) w K = K (.int .i64 n) w) ∧
  (∀ {ty : TypeId} {c : List Bool} {A : Option Addr} {n m : Nat}  {w : World} {K : Value → World → Prop}, (std Tryz.prog).step (sBuiltin .len #[25] ty c [.slice A n m]) w K = K (.int .i64 n) w) ∧
  (∀ {ty : TypeId} {c : List Bool} {A : Option Addr} {n m : Nat}  {w : World} {K : Value → World → Prop}, (std Tryz.prog).step (sBuiltin .len #[39] ty c [.slice A n m]) w K = K (.int .i64 n) w) ∧
  (∀ {ty : TypeId} {c : List Bool} {A : Option Addr} {n m : Nat}  {w : World} {K : Value → World → Prop}, (std Tryz.prog).step (sBuiltin .len #[44] ty c [.slice A n m]) w K = K (.int .i64 n) w) ∧
  (∀ {ty : TypeId} {c : List Bool} {A : Option Addr} {n m : Nat}  {w : World} {K : Value → World → Prop}, (std Tryz.prog).step (sBuiltin .len #[50] ty c [.slice A n m]) w K = K (.int .i64 n) w) ∧
  (∀ {ty : TypeId} {c : List Bool} {A : Option Addr} {n m : Nat}  {w : World} {K : Value → World → Prop}, (std Tryz.prog).step (sBuiltin .len #[59] ty c [.slice A n m]) w K = K (.int .i64 n) w) ∧
  (∀ {ty : TypeId} {c : List Bool} {s : ByteArray}  {w : World} {K : Value → World → Prop}, (std Tryz.prog).step (sBuiltin .len #[9] ty c [.string s]) w K = K (.int .i64 s.size) w) ∧
  (∀ {q : IntKind} {n : Int}  {w : World} {K : Value → World → Prop}, (std Tryz.prog).step (sConv 121 148 (.int q n)) w K = K (.int .u32 (IntKind.wrap .u32 n)) w) ∧
  (∀ {q : IntKind} {n : Int}  {w : World} {K : Value → World → Prop}, (std Tryz.prog).step (sConv 121 3 (.int q n)) w K = K (.int .i64 (IntKind.wrap .i64 n)) w) ∧
  (∀ {q : IntKind} {n : Int}  {w : World} {K : Value → World → Prop}, (std Tryz.prog).step (sConv 148 5 (.int q n)) w K = K (.int .u8 (IntKind.wrap .u8 n)) w) ∧
  (∀ {q : IntKind} {n : Int}  {w : World} {K : Value → World → Prop}, (std Tryz.prog).step (sConv 150 5 (.int q n)) w K = K (.int .u8 (IntKind.wrap .u8 n)) w) ∧
  (∀ {q : IntKind} {n : Int}  {w : World} {K : Value → World → Prop}, (std Tryz.prog).step (sConv 3 121 (.int q n)) w K = K (.int .u64 (IntKind.wrap .u64 n)) w) ∧
  (∀ {q : IntKind} {n : Int}  {w : World} {K : Value → World → Prop}, (std Tryz.prog).step (sConv 3 158 (.int q n)) w K = K (.int .u64 (IntKind.wrap .u64 n)) w) ∧
  (∀ {q : IntKind} {n : Int}  {w : World} {K : Value → World → Prop}, (std Tryz.prog).step (sConv 5 3 (.int q n)) w K = K (.int .i64 (IntKind.wrap .i64 n)) w) ∧
  (∀ {a : Addr}  {w : World} {K : Value → World → Prop}, (std Tryz.prog).step (sFieldAddr 104 (.pointer (some a)) 0) w K = K (.pointer (some (a))) w) ∧
  (∀ {a : Addr}  {w : World} {K : Value → World → Prop}, (std Tryz.prog).step (sFieldAddr 127 (.pointer (some a)) 0) w K = K (.pointer (some (a))) w) ∧
  (∀ {a : Addr}  {w : World} {K : Value → World → Prop}, (std Tryz.prog).step (sFieldAddr 129 (.pointer (some a)) 0) w K = K (.pointer (some (a))) w) ∧
  (∀ {a : Addr}  {w : World} {K : Value → World → Prop}, (std Tryz.prog).step (sFieldAddr 129 (.pointer (some a)) 1) w K = K (.pointer (some (a.add 1))) w) ∧
  (∀ {a : Addr}  {w : World} {K : Value → World → Prop}, (std Tryz.prog).step (sFieldAddr 27 (.pointer (some a)) 0) w K = K (.pointer (some (a))) w) ∧
  (∀ {a : Addr}  {w : World} {K : Value → World → Prop}, (std Tryz.prog).step (sFieldAddr 27 (.pointer (some a)) 1) w K = K (.pointer (some (a.add 1))) w) ∧
  (∀ {a : Addr}  {w : World} {K : Value → World → Prop}, (std Tryz.prog).step (sFieldAddr 31 (.pointer (some a)) 0) w K = K (.pointer (some (a))) w) ∧
  (∀ {a : Addr}  {w : World} {K : Value → World → Prop}, (std Tryz.prog).step (sFieldAddr 31 (.pointer (some a)) 1) w K = K (.pointer (some (a.add 1))) w) ∧
  (∀ {a : Addr}  {w : World} {K : Value → World → Prop}, (std Tryz.prog).step (sFieldAddr 33 (.pointer (some a)) 0) w K = K (.pointer (some (a))) w) ∧
  (∀ {a : Addr}  {w : World} {K : Value → World → Prop}, (std Tryz.prog).step (sFieldAddr 33 (.pointer (some a)) 1) w K = K (.pointer (some (a.add 1))) w) ∧
  (∀ {a : Addr}  {w : World} {K : Value → World → Prop}, (std Tryz.prog).step (sFieldAddr 33 (.pointer (some a)) 2) w K = K (.pointer (some (a.add 2))) w) ∧
  (∀ {a : Addr}  {w : World} {K : Value → World → Prop}, (std Tryz.prog).step (sFieldAddr 53 (.pointer (some a)) 0) w K = K (.pointer (some (a))) w) ∧
  (∀ {a : Addr}  {w : World} {K : Value → World → Prop}, (std Tryz.prog).step (sFieldAddr 53 (.pointer (some a)) 1) w K = K (.pointer (some (a.add 1))) w) ∧
  (∀ {a : Addr}  {w : World} {K : Value → World → Prop}, (std Tryz.prog).step (sFieldAddr 67 (.pointer (some a)) 0) w K = K (.pointer (some (a))) w) ∧
  (∀ {a : Addr}  {w : World} {K : Value → World → Prop}, (std Tryz.prog).step (sFieldAddr 67 (.pointer (some a)) 1) w K = K (.pointer (some (a.add 1))) w) ∧
  (∀ {a : Addr}  {w : World} {K : Value → World → Prop}, (std Tryz.prog).step (sFieldAddr 78 (.pointer (some a)) 0) w K = K (.pointer (some (a))) w) ∧
  (∀ {a : Addr}  {w : World} {K : Value → World → Prop}, (std Tryz.prog).step (sFieldAddr 78 (.pointer (some a)) 1) w K = K (.pointer (some (a.add 1))) w) ∧
  (∀ {a : Addr}  {w : World} {K : Value → World → Prop}, (std Tryz.prog).step (sFieldAddr 85 (.pointer (some a)) 0) w K = K (.pointer (some (a))) w) ∧
  (∀ {a : Addr}  {w : World} {K : Value → World → Prop}, (std Tryz.prog).step (sFieldAddr 85 (.pointer (some a)) 1) w K = K (.pointer (some (a.add 1))) w) ∧
  (∀ {a : Addr}  {w : World} {K : Value → World → Prop}, (std Tryz.prog).step (sFieldAddr 85 (.pointer (some a)) 2) w K = K (.pointer (some (a.add 2))) w) ∧
  (∀ {a : Addr}  {w : World} {K : Value → World → Prop}, (std Tryz.prog).step (sFieldAddr 85 (.pointer (some a)) 3) w K = K (.pointer (some (a.add 3))) w) ∧
  (∀ {a : Addr}  {w : World} {K : Value → World → Prop}, (std Tryz.prog).step (sFieldAddr 95 (.pointer (some a)) 0) w K = K (.pointer (some (a))) w) ∧
  (∀ {a : Addr}  {w : World} {K : Value → World → Prop}, (std Tryz.prog).step (sFieldAddr 95 (.pointer (some a)) 1) w K = K (.pointer (some (a.add 1))) w) ∧
  (∀ {a : Addr}  {w : World} {K : Value → World → Prop}, (std Tryz.prog).step (sFieldAddr 95 (.pointer (some a)) 2) w K = K (.pointer (some (a.add 2))) w) ∧
  (∀ {a : Addr} {n c i : Nat} (h : i < n) {w : World} {K : Value → World → Prop}, (std Tryz.prog).step (sIndexAddr 109 (.slice (some a) n c) (.int .i64 (i : Nat))) w K = K (.pointer (some (a.add (i)))) w) ∧
  (∀ {a : Addr} {i : Nat} (h : i < 6) {w : World} {K : Value → World → Prop}, (std Tryz.prog).step (sIndexAddr 137 (.pointer (some a)) (.int .i64 (i : Nat))) w K = K (.pointer (some (a.add (i)))) w) ∧
  (∀ {a : Addr} {i : Nat} (h : i < 6) {w : World} {K : Value → World → Prop}, (std Tryz.prog).step (sIndexAddr 138 (.pointer (some a)) (.int .i64 (i : Nat))) w K = K (.pointer (some (a.add (i * 6)))) w) ∧
  (∀ {a : Addr} {n c i : Nat} (h : i < n) {w : World} {K : Value → World → Prop}, (std Tryz.prog).step (sIndexAddr 22 (.slice (some a) n c) (.int .i64 (i : Nat))) w K = K (.pointer (some (a.add (i * 4)))) w) ∧
  (∀ {a : Addr} {n c i : Nat} (h : i < n) {w : World} {K : Value → World → Prop}, (std Tryz.prog).step (sIndexAddr 25 (.slice (some a) n c) (.int .i64 (i : Nat))) w K = K (.pointer (some (a.add (i * 4)))) w) ∧
  (∀ {a : Addr} {n c i : Nat} (h : i < n) {w : World} {K : Value → World → Prop}, (std Tryz.prog).step (sIndexAddr 39 (.slice (some a) n c) (.int .i64 (i : Nat))) w K = K (.pointer (some (a.add (i * 2)))) w) ∧
  (∀ {a : Addr} {n c i : Nat} (h : i < n) {w : World} {K : Value → World → Prop}, (std Tryz.prog).step (sIndexAddr 44 (.slice (some a) n c) (.int .i64 (i : Nat))) w K = K (.pointer (some (a.add (i)))) w) ∧
  (∀ {a : Addr} {n c i : Nat} (h : i < n) {w : World} {K : Value → World → Prop}, (std Tryz.prog).step (sIndexAddr 50 (.slice (some a) n c) (.int .i64 (i : Nat))) w K = K (.pointer (some (a.add (i * 3)))) w) ∧
  (∀ {a : Addr} {n c i : Nat} (h : i < n) {w : World} {K : Value → World → Prop}, (std Tryz.prog).step (sIndexAddr 59 (.slice (some a) n c) (.int .i64 (i : Nat))) w K = K (.pointer (some (a.add (i * 2)))) w) := ⟨@px_add, @px_sub, @px_mul, @px_and, @px_or, @px_xor, @px_lss, @px_leq, @px_gtr, @px_geq, @px_eql, @px_neq, @px_quo, @px_rem, @px_shl, @px_shr, @px_seql, @px_sneq, @px_sadd, @px_not, @px_neg, @px_inv, @px_nilc, @px_ext20, @px_ext21, @px_ext30, @px_ext31, @px_ext32, @px_min, @px_max, @px_peql100, @px_neql100, @px_peql23, @px_neql23, @px_beql4, @px_peql92, @px_neql92, @px_pneq23, @px_nneq23, @px_len109, @px_len22, @px_len25, @px_len39, @px_len44, @px_len50, @px_len59, @px_len9, @px_cv121_148, @px_cv121_3, @px_cv148_5, @px_cv150_5, @px_cv3_121, @px_cv3_158, @px_cv5_3, @px_fa104_0, @px_fa127_0, @px_fa129_0, @px_fa129_1, @px_fa27_0, @px_fa27_1, @px_fa31_0, @px_fa31_1, @px_fa33_0, @px_fa33_1, @px_fa33_2, @px_fa53_0, @px_fa53_1, @px_fa67_0, @px_fa67_1, @px_fa78_0, @px_fa78_1, @px_fa85_0, @px_fa85_1, @px_fa85_2, @px_fa85_3, @px_fa95_0, @px_fa95_1, @px_fa95_2, @px_ix109, @px_xa137, @px_xa138, @px_ix22, @px_ix25, @px_ix39, @px_ix44, @px_ix50, @px_ix59⟩
theorem SX : (∀ {t : TypeId} {x y : Operand} {q : IntKind} {a b : Int}  {S : World → Prop} {k : Value → Prop} (hne : ∃ w, S w), (std Tryz.prog).stepS S (sBin .add t x y (.int q a) (.int q b)) k = k (.int q (q.wrap (a + b)))) ∧
  (∀ {t : TypeId} {x y : Operand} {q : IntKind} {a b : Int}  {S : World → Prop} {k : Value → Prop} (hne : ∃ w, S w), (std Tryz.prog).stepS S (sBin .sub t x y (.int q a) (.int q b)) k = k (.int q (q.wrap (a - b)))) ∧
  (∀ {t : TypeId} {x y : Operand} {q : IntKind} {a b : Int}  {S : World → Prop} {k : Value → Prop} (hne : ∃ w, S w), (std Tryz.prog).stepS S (sBin .mul t x y (.int q a) (.int q b)) k = k (.int q (q.wrap (a * b)))) ∧
  (∀ {t : TypeId} {x y : Operand} {q : IntKind} {a b : Int}  {S : World → Prop} {k : Value → Prop} (hne : ∃ w, S w), (std Tryz.prog).stepS S (sBin .and t x y (.int q a) (.int q b)) k = k (.int q (bitOp .and q a b))) ∧
  (∀ {t : TypeId} {x y : Operand} {q : IntKind} {a b : Int}  {S : World → Prop} {k : Value → Prop} (hne : ∃ w, S w), (std Tryz.prog).stepS S (sBin .or t x y (.int q a) (.int q b)) k = k (.int q (bitOp .or q a b))) ∧
  (∀ {t : TypeId} {x y : Operand} {q : IntKind} {a b : Int}  {S : World → Prop} {k : Value → Prop} (hne : ∃ w, S w), (std Tryz.prog).stepS S (sBin .xor t x y (.int q a) (.int q b)) k = k (.int q (bitOp .xor q a b))) ∧
  (∀ {t : TypeId} {x y : Operand} {q : IntKind} {a b : Int}  {S : World → Prop} {k : Value → Prop} (hne : ∃ w, S w), (std Tryz.prog).stepS S (sBin .lss t x y (.int q a) (.int q b)) k = k (.bool (decide (a < b)))) ∧
  (∀ {t : TypeId} {x y : Operand} {q : IntKind} {a b : Int}  {S : World → Prop} {k : Value → Prop} (hne : ∃ w, S w), (std Tryz.prog).stepS S (sBin .leq t x y (.int q a) (.int q b)) k = k (.bool (decide (a ≤ b)))) ∧
  (∀ {t : TypeId} {x y : Operand} {q : IntKind} {a b : Int}  {S : World → Prop} {k : Value → Prop} (hne : ∃ w, S w), (std Tryz.prog).stepS S (sBin .gtr t x y (.int q a) (.int q b)) k = k (.bool (decide (b < a)))) ∧
  (∀ {t : TypeId} {x y : Operand} {q : IntKind} {a b : Int}  {S : World → Prop} {k : Value → Prop} (hne : ∃ w, S w), (std Tryz.prog).stepS S (sBin .geq t x y (.int q a) (.int q b)) k = k (.bool (decide (b ≤ a)))) ∧
  (∀ {t : TypeId} {x y : Operand} {q : IntKind} {a b : Int}  {S : World → Prop} {k : Value → Prop} (hne : ∃ w, S w), (std Tryz.prog).stepS S (sBin .eql t x y (.int q a) (.int q b)) k = k (.bool (decide (a = b)))) ∧
  (∀ {t : TypeId} {x y : Operand} {q : IntKind} {a b : Int}  {S : World → Prop} {k : Value → Prop} (hne : ∃ w, S w), (std Tryz.prog).stepS S (sBin .neq t x y (.int q a) (.int q b)) k = k (.bool (decide (a ≠ b)))) ∧
  (∀ {t : TypeId} {x y : Operand} {q : IntKind} {a b : Int} (h : b ≠ 0) {S : World → Prop} {k : Value → Prop} (hne : ∃ w, S w), (std Tryz.prog).stepS S (sBin .quo t x y (.int q a) (.int q b)) k = k (.int q (q.wrap (a.tdiv b)))) ∧
  (∀ {t : TypeId} {x y : Operand} {q : IntKind} {a b : Int} (h : b ≠ 0) {S : World → Prop} {k : Value → Prop} (hne : ∃ w, S w), (std Tryz.prog).stepS S (sBin .rem t x y (.int q a) (.int q b)) k = k (.int q (a.tmod b))) ∧
  (∀ {t : TypeId} {x y : Operand} {q q' : IntKind} {a b : Int} (h : ¬ b < 0) {S : World → Prop} {k : Value → Prop} (hne : ∃ w, S w), (std Tryz.prog).stepS S (sBin .shl t x y (.int q a) (.int q' b)) k = k (.int q (q.wrap (a * 2 ^ (min b.toNat q.bits))))) ∧
  (∀ {t : TypeId} {x y : Operand} {q q' : IntKind} {a b : Int} (h : ¬ b < 0) {S : World → Prop} {k : Value → Prop} (hne : ∃ w, S w), (std Tryz.prog).stepS S (sBin .shr t x y (.int q a) (.int q' b)) k = k (.int q (a.fdiv (2 ^ (min b.toNat q.bits))))) ∧
  (∀ {t : TypeId} {x y : Operand} {a b : ByteArray}  {S : World → Prop} {k : Value → Prop} (hne : ∃ w, S w), (std Tryz.prog).stepS S (sBin .eql t x y (.string a) (.string b)) k = k (.bool (decide (a = b)))) ∧
  (∀ {t : TypeId} {x y : Operand} {a b : ByteArray}  {S : World → Prop} {k : Value → Prop} (hne : ∃ w, S w), (std Tryz.prog).stepS S (sBin .neq t x y (.string a) (.string b)) k = k (.bool (!decide (a = b)))) ∧
  (∀ {t : TypeId} {x y : Operand} {a b : ByteArray} (h : a.size + b.size ≤ 9223372036854775807) {S : World → Prop} {k : Value → Prop} (hne : ∃ w, S w), (std Tryz.prog).stepS S (sBin .add t x y (.string a) (.string b)) k = k (.string (a ++ b))) ∧
  (∀ {b : Bool}  {S : World → Prop} {k : Value → Prop} (hne : ∃ w, S w), (std Tryz.prog).stepS S (sUn .not (.bool b)) k = k (.bool (!b))) ∧
  (∀ {q : IntKind} {a : Int}  {S : World → Prop} {k : Value → Prop} (hne : ∃ w, S w), (std Tryz.prog).stepS S (sUn .neg (.int q a)) k = k (.int q (q.wrap (0 - a)))) ∧
  (∀ {q : IntKind} {a : Int}  {S : World → Prop} {k : Value → Prop} (hne : ∃ w, S w), (std Tryz.prog).stepS S (sUn .xor (.int q a)) k = k (.int q (bitOp .xor q (if q.signed then -1 else q.max) a))) ∧
  (∀ {a : Addr}  {S : World → Prop} {k : Value → Prop} (hne : ∃ w, S w), (std Tryz.prog).stepS S (sNil (.pointer (some a))) k = k (.pointer (some a))) ∧
  (∀ {a b : Value}  {S : World → Prop} {k : Value → Prop} (hne : ∃ w, S w), (std Tryz.prog).stepS S (sExtract (.tuple #[a, b]) 0) k = k (a)) ∧
  (∀ {a b : Value}  {S : World → Prop} {k : Value → Prop} (hne : ∃ w, S w), (std Tryz.prog).stepS S (sExtract (.tuple #[a, b]) 1) k = k (b)) ∧
  (∀ {a b c : Value}  {S : World → Prop} {k : Value → Prop} (hne : ∃ w, S w), (std Tryz.prog).stepS S (sExtract (.tuple #[a, b, c]) 0) k = k (a)) ∧
  (∀ {a b c : Value}  {S : World → Prop} {k : Value → Prop} (hne : ∃ w, S w), (std Tryz.prog).stepS S (sExtract (.tuple #[a, b, c]) 1) k = k (b)) ∧
  (∀ {a b c : Value}  {S : World → Prop} {k : Value → Prop} (hne : ∃ w, S w), (std Tryz.prog).stepS S (sExtract (.tuple #[a, b, c]) 2) k = k (c)) ∧
  (∀ {ats : Array TypeId} {ty : TypeId} {c : List Bool} {q : IntKind} {a b : Int}  {S : World → Prop} {k : Value → Prop} (hne : ∃ w, S w), (std Tryz.prog).stepS S (sBuiltin .min ats ty c [.int q a, .int q b]) k = k (.int q (if b < a then b else a))) ∧
  (∀ {ats : Array TypeId} {ty : TypeId} {c : List Bool} {q : IntKind} {a b : Int}  {S : World → Prop} {k : Value → Prop} (hne : ∃ w, S w), (std Tryz.prog).stepS S (sBuiltin .max ats ty c [.int q a, .int q b]) k = k (.int q (if a < b then b else a))) ∧
  (∀ {x y : Operand} {a : Addr}  {S : World → Prop} {k : Value → Prop} (hne : ∃ w, S w), (std Tryz.prog).stepS S (sBin .eql 100 x y (.pointer (some a)) (.pointer none)) k = k (.bool false)) ∧
  (∀ {x y : Operand}  {S : World → Prop} {k : Value → Prop} (hne : ∃ w, S w), (std Tryz.prog).stepS S (sBin .eql 100 x y (.pointer none) (.pointer none)) k = k (.bool true)) ∧
  (∀ {x y : Operand} {a : Addr}  {S : World → Prop} {k : Value → Prop} (hne : ∃ w, S w), (std Tryz.prog).stepS S (sBin .eql 23 x y (.pointer (some a)) (.pointer none)) k = k (.bool false)) ∧
  (∀ {x y : Operand}  {S : World → Prop} {k : Value → Prop} (hne : ∃ w, S w), (std Tryz.prog).stepS S (sBin .eql 23 x y (.pointer none) (.pointer none)) k = k (.bool true)) ∧
  (∀ {x y : Operand} {a b : Bool}  {S : World → Prop} {k : Value → Prop} (hne : ∃ w, S w), (std Tryz.prog).stepS S (sBin .eql 4 x y (.bool a) (.bool b)) k = k (.bool (a == b))) ∧
  (∀ {x y : Operand} {a : Addr}  {S : World → Prop} {k : Value → Prop} (hne : ∃ w, S w), (std Tryz.prog).stepS S (sBin .eql 92 x y (.pointer (some a)) (.pointer none)) k = k (.bool false)) ∧
  (∀ {x y : Operand}  {S : World → Prop} {k : Value → Prop} (hne : ∃ w, S w), (std Tryz.prog).stepS S (sBin .eql 92 x y (.pointer none) (.pointer none)) k = k (.bool true)) ∧
  (∀ {x y : Operand} {a : Addr}  {S : World → Prop} {k : Value → Prop} (hne : ∃ w, S w), (std Tryz.prog).stepS S (sBin .neq 23 x y (.pointer (some a)) (.pointer none)) k = k (.bool true)) ∧
  (∀ {x y : Operand}  {S : World → Prop} {k : Value → Prop} (hne : ∃ w, S w), (std Tryz.prog).stepS S (sBin .neq 23 x y (.pointer none) (.pointer none)) k = k (.bool false)) ∧
  (∀ {ty : TypeId} {c : List Bool} {A : Option Addr} {n m : Nat}  {S : World → Prop} {k : Value → Prop} (hne : ∃ w, S w), (std Tryz.prog).stepS S (sBuiltin .len #[109] ty c [.slice A n m]) k = k (.int .i64 n)) ∧
  (∀ {ty : TypeId} {c : List Bool} {A : Option Addr} {n m : Nat}  {S : World → Prop} {k : Value → Prop} (hne : ∃ w, S w), (std Tryz.prog).stepS S (sBuiltin .len #[22] ty c [.slice A n m]) k = k (.int .i64 n)) ∧
  (∀ {ty : TypeId} {c : List Bool} {A : Option Addr} {n m : Nat}  {S : World → Prop} {k : Value → Prop} (hne : ∃ w, S w), (std Tryz.prog).stepS S (sBuiltin .len #[25] ty c [.slice A n m]) k = k (.int .i64 n)) ∧
  (∀ {ty : TypeId} {c : List Bool} {A : Option Addr} {n m : Nat}  {S : World → Prop} {k : Value → Prop} (hne : ∃ w, S w), (std Tryz.prog).stepS S (sBuiltin .len #[39] ty c [.slice A n m]) k = k (.int .i64 n)) ∧
  (∀ {ty : TypeId} {c : List Bool} {A : Option Addr} {n m : Nat}  {S : World → Prop} {k : Value → Prop} (hne : ∃ w, S w), (std Tryz.prog).stepS S (sBuiltin .len #[44] ty c [.slice A n m]) k = k (.int .i64 n)) ∧
  (∀ {ty : TypeId} {c : List Bool} {A : Option Addr} {n m : Nat}  {S : World → Prop} {k : Value → Prop} (hne : ∃ w, S w), (std Tryz.prog).stepS S (sBuiltin .len #[50] ty c [.slice A n m]) k = k (.int .i64 n)) ∧
  (∀ {ty : TypeId} {c : List Bool} {A : Option Addr} {n m : Nat}  {S : World → Prop} {k : Value → Prop} (hne : ∃ w, S w), (std Tryz.prog).stepS S (sBuiltin .len #[59] ty c [.slice A n m]) k = k (.int .i64 n)) ∧
  (∀ {ty : TypeId} {c : List Bool} {s : ByteArray}  {S : World → Prop} {k : Value → Prop} (hne : ∃ w, S w), (std Tryz.prog).stepS S (sBuiltin .len #[9] ty c [.string s]) k = k (.int .i64 s.size)) ∧
  (∀ {q : IntKind} {n : Int}  {S : World → Prop} {k : Value → Prop} (hne : ∃ w, S w), (std Tryz.prog).stepS S (sConv 121 148 (.int q n)) k = k (.int .u32 (IntKind.wrap .u32 n))) ∧
  (∀ {q : IntKind} {n : Int}  {S : World → Prop} {k : Value → Prop} (hne : ∃ w, S w), (std Tryz.prog).stepS S (sConv 121 3 (.int q n)) k = k (.int .i64 (IntKind.wrap .i64 n))) ∧
  (∀ {q : IntKind} {n : Int}  {S : World → Prop} {k : Value → Prop} (hne : ∃ w, S w), (std Tryz.prog).stepS S (sConv 148 5 (.int q n)) k = k (.int .u8 (IntKind.wrap .u8 n))) ∧
  (∀ {q : IntKind} {n : Int}  {S : World → Prop} {k : Value → Prop} (hne : ∃ w, S w), (std Tryz.prog).stepS S (sConv 150 5 (.int q n)) k = k (.int .u8 (IntKind.wrap .u8 n))) ∧
  (∀ {q : IntKind} {n : Int}  {S : World → Prop} {k : Value → Prop} (hne : ∃ w, S w), (std Tryz.prog).stepS S (sConv 3 121 (.int q n)) k = k (.int .u64 (IntKind.wrap .u64 n))) ∧
  (∀ {q : IntKind} {n : Int}  {S : World → Prop} {k : Value → Prop} (hne : ∃ w, S w), (std Tryz.prog).stepS S (sConv 3 158 (.int q n)) k = k (.int .u64 (IntKind.wrap .u64 n))) ∧
  (∀ {q : IntKind} {n : Int}  {S : World → Prop} {k : Value → Prop} (hne : ∃ w, S w), (std Tryz.prog).stepS S (sConv 5 3 (.int q n)) k = k (.int .i64 (IntKind.wrap .i64 n))) ∧
  (∀ {a : Addr}  {S : World → Prop} {k : Value → Prop} (hne : ∃ w, S w), (std Tryz.prog).stepS S (sFieldAddr 104 (.pointer (some a)) 0) k = k (.pointer (some (a)))) ∧
  (∀ {a : Addr}  {S : World → Prop} {k : Value → Prop} (hne : ∃ w, S w), (std Tryz.prog).stepS S (sFieldAddr 127 (.pointer (some a)) 0) k = k (.pointer (some (a)))) ∧
  (∀ {a : Addr}  {S : World → Prop} {k : Value → Prop} (hne : ∃ w, S w), (std Tryz.prog).stepS S (sFieldAddr 129 (.pointer (some a)) 0) k = k (.pointer (some (a)))) ∧
  (∀ {a : Addr}  {S : World → Prop} {k : Value → Prop} (hne : ∃ w, S w), (std Tryz.prog).stepS S (sFieldAddr 129 (.pointer (some a)) 1) k = k (.pointer (some (a.add 1)))) ∧
  (∀ {a : Addr}  {S : World → Prop} {k : Value → Prop} (hne : ∃ w, S w), (std Tryz.prog).stepS S (sFieldAddr 27 (.pointer (some a)) 0) k = k (.pointer (some (a)))) ∧
  (∀ {a : Addr}  {S : World → Prop} {k : Value → Prop} (hne : ∃ w, S w), (std Tryz.prog).stepS S (sFieldAddr 27 (.pointer (some a)) 1) k = k (.pointer (some (a.add 1)))) ∧
  (∀ {a : Addr}  {S : World → Prop} {k : Value → Prop} (hne : ∃ w, S w), (std Tryz.prog).stepS S (sFieldAddr 31 (.pointer (some a)) 0) k = k (.pointer (some (a)))) ∧
  (∀ {a : Addr}  {S : World → Prop} {k : Value → Prop} (hne : ∃ w, S w), (std Tryz.prog).stepS S (sFieldAddr 31 (.pointer (some a)) 1) k = k (.pointer (some (a.add 1)))) ∧
  (∀ {a : Addr}  {S : World → Prop} {k : Value → Prop} (hne : ∃ w, S w), (std Tryz.prog).stepS S (sFieldAddr 33 (.pointer (some a)) 0) k = k (.pointer (some (a)))) ∧
  (∀ {a : Addr}  {S : World → Prop} {k : Value → Prop} (hne : ∃ w, S w), (std Tryz.prog).stepS S (sFieldAddr 33 (.pointer (some a)) 1) k = k (.pointer (some (a.add 1)))) ∧
  (∀ {a : Addr}  {S : World → Prop} {k : Value → Prop} (hne : ∃ w, S w), (std Tryz.prog).stepS S (sFieldAddr 33 (.pointer (some a)) 2) k = k (.pointer (some (a.add 2)))) ∧
  (∀ {a : Addr}  {S : World → Prop} {k : Value → Prop} (hne : ∃ w, S w), (std Tryz.prog).stepS S (sFieldAddr 53 (.pointer (some a)) 0) k = k (.pointer (some (a)))) ∧
  (∀ {a : Addr}  {S : World → Prop} {k : Value → Prop} (hne : ∃ w, S w), (std Tryz.prog).stepS S (sFieldAddr 53 (.pointer (some a)) 1) k = k (.pointer (some (a.add 1)))) ∧
  (∀ {a : Addr}  {S : World → Prop} {k : Value → Prop} (hne : ∃ w, S w), (std Tryz.prog).stepS S (sFieldAddr 67 (.pointer (some a)) 0) k = k (.pointer (some (a)))) ∧
  (∀ {a : Addr}  {S : World → Prop} {k : Value → Prop} (hne : ∃ w, S w), (std Tryz.prog).stepS S (sFieldAddr 67 (.pointer (some a)) 1) k = k (.pointer (some (a.add 1)))) ∧
  (∀ {a : Addr}  {S : World → Prop} {k : Value → Prop} (hne : ∃ w, S w), (std Tryz.prog).stepS S (sFieldAddr 78 (.pointer (some a)) 0) k = k (.pointer (some (a)))) ∧
  (∀ {a : Addr}  {S : World → Prop} {k : Value → Prop} (hne : ∃ w, S w), (std Tryz.prog).stepS S (sFieldAddr 78 (.pointer (some a)) 1) k = k (.pointer (some (a.add 1)))) ∧
  (∀ {a : Addr}  {S : World → Prop} {k : Value → Prop} (hne : ∃ w, S w), (std Tryz.prog).stepS S (sFieldAddr 85 (.pointer (some a)) 0) k = k (.pointer (some (a)))) ∧
  (∀ {a : Addr}  {S : World → Prop} {k : Value → Prop} (hne : ∃ w, S w), (std Tryz.prog).stepS S (sFieldAddr 85 (.pointer (some a)) 1) k = k (.pointer (some (a.add 1)))) ∧
  (∀ {a : Addr}  {S : World → Prop} {k : Value → Prop} (hne : ∃ w, S w), (std Tryz.prog).stepS S (sFieldAddr 85 (.pointer (some a)) 2) k = k (.pointer (some (a.add 2)))) ∧
  (∀ {a : Addr}  {S : World → Prop} {k : Value → Prop} (hne : ∃ w, S w), (std Tryz.prog).stepS S (sFieldAddr 85 (.pointer (some a)) 3) k = k (.pointer (some (a.add 3)))) ∧
  (∀ {a : Addr}  {S : World → Prop} {k : Value → Prop} (hne : ∃ w, S w), (std Tryz.prog).stepS S (sFieldAddr 95 (.pointer (some a)) 0) k = k (.pointer (some (a)))) ∧
  (∀ {a : Addr}  {S : World → Prop} {k : Value → Prop} (hne : ∃ w, S w), (std Tryz.prog).stepS S (sFieldAddr 95 (.pointer (some a)) 1) k = k (.pointer (some (a.add 1)))) ∧
  (∀ {a : Addr}  {S : World → Prop} {k : Value → Prop} (hne : ∃ w, S w), (std Tryz.prog).stepS S (sFieldAddr 95 (.pointer (some a)) 2) k = k (.pointer (some (a.add 2)))) ∧
  (∀ {a : Addr} {n c i : Nat} (h : i < n) {S : World → Prop} {k : Value → Prop} (hne : ∃ w, S w), (std Tryz.prog).stepS S (sIndexAddr 109 (.slice (some a) n c) (.int .i64 (i : Nat))) k = k (.pointer (some (a.add (i))))) ∧
  (∀ {a : Addr} {i : Nat} (h : i < 6) {S : World → Prop} {k : Value → Prop} (hne : ∃ w, S w), (std Tryz.prog).stepS S (sIndexAddr 137 (.pointer (some a)) (.int .i64 (i : Nat))) k = k (.pointer (some (a.add (i))))) ∧
  (∀ {a : Addr} {i : Nat} (h : i < 6) {S : World → Prop} {k : Value → Prop} (hne : ∃ w, S w), (std Tryz.prog).stepS S (sIndexAddr 138 (.pointer (some a)) (.int .i64 (i : Nat))) k = k (.pointer (some (a.add (i * 6))))) ∧
  (∀ {a : Addr} {n c i : Nat} (h : i < n) {S : World → Prop} {k : Value → Prop} (hne : ∃ w, S w), (std Tryz.prog).stepS S (sIndexAddr 22 (.slice (some a) n c) (.int .i64 (i : Nat))) k = k (.pointer (some (a.add (i * 4))))) ∧
  (∀ {a : Addr} {n c i : Nat} (h : i < n) {S : World → Prop} {k : Value → Prop} (hne : ∃ w, S w), (std Tryz.prog).stepS S (sIndexAddr 25 (.slice (some a) n c) (.int .i64 (i : Nat))) k = k (.pointer (some (a.add (i * 4))))) ∧
  (∀ {a : Addr} {n c i : Nat} (h : i < n) {S : World → Prop} {k : Value → Prop} (hne : ∃ w, S w), (std Tryz.prog).stepS S (sIndexAddr 39 (.slice (some a) n c) (.int .i64 (i : Nat))) k = k (.pointer (some (a.add (i * 2))))) ∧
  (∀ {a : Addr} {n c i : Nat} (h : i < n) {S : World → Prop} {k : Value → Prop} (hne : ∃ w, S w), (std Tryz.prog).stepS S (sIndexAddr 44 (.slice (some a) n c) (.int .i64 (i : Nat))) k = k (.pointer (some (a.add (i))))) ∧
  (∀ {a : Addr} {n c i : Nat} (h : i < n) {S : World → Prop} {k : Value → Prop} (hne : ∃ w, S w), (std Tryz.prog).stepS S (sIndexAddr 50 (.slice (some a) n c) (.int .i64 (i : Nat))) k = k (.pointer (some (a.add (i * 3))))) ∧
  (∀ {a : Addr} {n c i : Nat} (h : i < n) {S : World → Prop} {k : Value → Prop} (hne : ∃ w, S w), (std Tryz.prog).stepS S (sIndexAddr 59 (.slice (some a) n c) (.int .i64 (i : Nat))) k = k (.pointer (some (a.add (i * 2))))) := ⟨@sx_add, @sx_sub, @sx_mul, @sx_and, @sx_or, @sx_xor, @sx_lss, @sx_leq, @sx_gtr, @sx_geq, @sx_eql, @sx_neq, @sx_quo, @sx_rem, @sx_shl, @sx_shr, @sx_seql, @sx_sneq, @sx_sadd, @sx_not, @sx_neg, @sx_inv, @sx_nilc, @sx_ext20, @sx_ext21, @sx_ext30, @sx_ext31, @sx_ext32, @sx_min, @sx_max, @sx_peql100, @sx_neql100, @sx_peql23, @sx_neql23, @sx_beql4, @sx_peql92, @sx_neql92, @sx_pneq23, @sx_nneq23, @sx_len109, @sx_len22, @sx_len25, @sx_len39, @sx_len44, @sx_len50, @sx_len59, @sx_len9, @sx_cv121_148, @sx_cv121_3, @sx_cv148_5, @sx_cv150_5, @sx_cv3_121, @sx_cv3_158, @sx_cv5_3, @sx_fa104_0, @sx_fa127_0, @sx_fa129_0, @sx_fa129_1, @sx_fa27_0, @sx_fa27_1, @sx_fa31_0, @sx_fa31_1, @sx_fa33_0, @sx_fa33_1, @sx_fa33_2, @sx_fa53_0, @sx_fa53_1, @sx_fa67_0, @sx_fa67_1, @sx_fa78_0, @sx_fa78_1, @sx_fa85_0, @sx_fa85_1, @sx_fa85_2, @sx_fa85_3, @sx_fa95_0, @sx_fa95_1, @sx_fa95_2, @sx_ix109, @sx_xa137, @sx_xa138, @sx_ix22, @sx_ix25, @sx_ix39, @sx_ix44, @sx_ix50, @sx_ix59⟩
theorem SLX : (∀ {a : Addr} {v : Value} {S : World → Prop} {k : Value → Prop} (hne : ∃ w, S w) (h : ∀ w, S w → w.cell? a = some v), (std Tryz.prog).stepS S (sLoad 109 (.pointer (some a))) k = k v) ∧
  (∀ {a : Addr} {v : Value} {S : World → Prop} {k : Value → Prop} (hne : ∃ w, S w) (h : ∀ w, S w → w.cell? a = some v), (std Tryz.prog).stepS S (sLoad 125 (.pointer (some a))) k = k v) ∧
  (∀ {a : Addr} {v : Value} {S : World → Prop} {k : Value → Prop} (hne : ∃ w, S w) (h : ∀ w, S w → w.cell? a = some v), (std Tryz.prog).stepS S (sLoad 158 (.pointer (some a))) k = k v) ∧
  (∀ {a : Addr} {v : Value} {S : World → Prop} {k : Value → Prop} (hne : ∃ w, S w) (h : ∀ w, S w → w.cell? a = some v), (std Tryz.prog).stepS S (sLoad 25 (.pointer (some a))) k = k v) ∧
  (∀ {a : Addr} {v : Value} {S : World → Prop} {k : Value → Prop} (hne : ∃ w, S w) (h : ∀ w, S w → w.cell? a = some v), (std Tryz.prog).stepS S (sLoad 29 (.pointer (some a))) k = k v) ∧
  (∀ {a : Addr} {v : Value} {S : World → Prop} {k : Value → Prop} (hne : ∃ w, S w) (h : ∀ w, S w → w.cell? a = some v), (std Tryz.prog).stepS S (sLoad 3 (.pointer (some a))) k = k v) ∧
  (∀ {a : Addr} {v : Value} {S : World → Prop} {k : Value → Prop} (hne : ∃ w, S w) (h : ∀ w, S w → w.cell? a = some v), (std Tryz.prog).stepS S (sLoad 39 (.pointer (some a))) k = k v) ∧
  (∀ {a : Addr} {v : Value} {S : World → Prop} {k : Value → Prop} (hne : ∃ w, S w) (h : ∀ w, S w → w.cell? a = some v), (std Tryz.prog).stepS S (sLoad 4 (.pointer (some a))) k = k v) ∧
  (∀ {a : Addr} {v : Value} {S : World → Prop} {k : Value → Prop} (hne : ∃ w, S w) (h : ∀ w, S w → w.cell? a = some v), (std Tryz.prog).stepS S (sLoad 44 (.pointer (some a))) k = k v) ∧
  (∀ {a : Addr} {v : Value} {S : World → Prop} {k : Value → Prop} (hne : ∃ w, S w) (h : ∀ w, S w → w.cell? a = some v), (std Tryz.prog).stepS S (sLoad 50 (.pointer (some a))) k = k v) ∧
  (∀ {a : Addr} {v : Value} {S : World → Prop} {k : Value → Prop} (hne : ∃ w, S w) (h : ∀ w, S w → w.cell? a = some v), (std Tryz.prog).stepS S (sLoad 64 (.pointer (some a))) k = k v) ∧
  (∀ {a : Addr} {v : Value} {S : World → Prop} {k : Value → Prop} (hne : ∃ w, S w) (h : ∀ w, S w → w.cell? a = some v), (std Tryz.prog).stepS S (sLoad 65 (.pointer (some a))) k = k v) ∧
  (∀ {a : Addr} {v : Value} {S : World → Prop} {k : Value → Prop} (hne : ∃ w, S w) (h : ∀ w, S w → w.cell? a = some v), (std Tryz.prog).stepS S (sLoad 9 (.pointer (some a))) k = k v) ∧
  (∀ {a : Addr} {v : Value} {S : World → Prop} {k : Value → Prop} (hne : ∃ w, S w) (h : ∀ w, S w → w.cell? a = some v), (std Tryz.prog).stepS S (sLoad 91 (.pointer (some a))) k = k v) ∧
  (∀ {a : Addr} {v : Value} {S : World → Prop} {k : Value → Prop} (hne : ∃ w, S w) (h : ∀ w, S w → w.cell? a = some v), (std Tryz.prog).stepS S (sLoad 93 (.pointer (some a))) k = k v) := ⟨@sld109, @sld125, @sld158, @sld25, @sld29, @sld3, @sld39, @sld4, @sld44, @sld50, @sld64, @sld65, @sld9, @sld91, @sld93⟩
theorem LX : (∀ {a : Addr} {v : Value} {w : World} {K : Value → World → Prop} (h : w.cell? a = some v), (std Tryz.prog).step (sLoad 109 (.pointer (some a))) w K = K v w) ∧
  (∀ {a : Addr} {v : Value} {w : World} {K : Value → World → Prop} (h : w.cell? a = some v), (std Tryz.prog).step (sLoad 125 (.pointer (some a))) w K = K v w) ∧
  (∀ {a : Addr} {v : Value} {w : World} {K : Value → World → Prop} (h : w.cell? a = some v), (std Tryz.prog).step (sLoad 158 (.pointer (some a))) w K = K v w) ∧
  (∀ {a : Addr} {v : Value} {w : World} {K : Value → World → Prop} (h : w.cell? a = some v), (std Tryz.prog).step (sLoad 25 (.pointer (some a))) w K = K v w) ∧
  (∀ {a : Addr} {v : Value} {w : World} {K : Value → World → Prop} (h : w.cell? a = some v), (std Tryz.prog).step (sLoad 29 (.pointer (some a))) w K = K v w) ∧
  (∀ {a : Addr} {v : Value} {w : World} {K : Value → World → Prop} (h : w.cell? a = some v), (std Tryz.prog).step (sLoad 3 (.pointer (some a))) w K = K v w) ∧
  (∀ {a : Addr} {v : Value} {w : World} {K : Value → World → Prop} (h : w.cell? a = some v), (std Tryz.prog).step (sLoad 39 (.pointer (some a))) w K = K v w) ∧
  (∀ {a : Addr} {v : Value} {w : World} {K : Value → World → Prop} (h : w.cell? a = some v), (std Tryz.prog).step (sLoad 4 (.pointer (some a))) w K = K v w) ∧
  (∀ {a : Addr} {v : Value} {w : World} {K : Value → World → Prop} (h : w.cell? a = some v), (std Tryz.prog).step (sLoad 44 (.pointer (some a))) w K = K v w) ∧
  (∀ {a : Addr} {v : Value} {w : World} {K : Value → World → Prop} (h : w.cell? a = some v), (std Tryz.prog).step (sLoad 50 (.pointer (some a))) w K = K v w) ∧
  (∀ {a : Addr} {v : Value} {w : World} {K : Value → World → Prop} (h : w.cell? a = some v), (std Tryz.prog).step (sLoad 64 (.pointer (some a))) w K = K v w) ∧
  (∀ {a : Addr} {v : Value} {w : World} {K : Value → World → Prop} (h : w.cell? a = some v), (std Tryz.prog).step (sLoad 65 (.pointer (some a))) w K = K v w) ∧
  (∀ {a : Addr} {v : Value} {w : World} {K : Value → World → Prop} (h : w.cell? a = some v), (std Tryz.prog).step (sLoad 9 (.pointer (some a))) w K = K v w) ∧
  (∀ {a : Addr} {v : Value} {w : World} {K : Value → World → Prop} (h : w.cell? a = some v), (std Tryz.prog).step (sLoad 91 (.pointer (some a))) w K = K v w) ∧
  (∀ {a : Addr} {v : Value} {w : World} {K : Value → World → Prop} (h : w.cell? a = some v), (std Tryz.prog).step (sLoad 93 (.pointer (some a))) w K = K v w) := ⟨@ld109, @ld125, @ld158, @ld25, @ld29, @ld3, @ld39, @ld4, @ld44, @ld50, @ld64, @ld65, @ld9, @ld91, @ld93⟩
theorem BX : (∀ (p : Prop) [Decidable p] (A B : Prop), (std Tryz.prog).bool (.bool (decide p)) A B = ((p → A) ∧ (¬ p → B))) ∧ (∀ (A B : Prop), (std Tryz.prog).bool (.bool true) A B = A) ∧ (∀ (A B : Prop), (std Tryz.prog).bool (.bool false) A B = B) ∧ (∀ (b : Bool) (A B : Prop), (std Tryz.prog).bool (.bool (!b)) A B = (std Tryz.prog).bool (.bool b) B A) := ⟨fun p => bool_dec p, bool_true, bool_false, bool_not⟩
end Go.Proofs.YtakifgecgmdjcaaGreat

/- Modes, ported from their own seat. -/
namespace Go.Proofs.YtakifgecgmdjcaaGreat
open Go Xf Go.RowKit
set_option linter.unusedVariables false
set_option linter.unusedSimpArgs false
set_option maxRecDepth 100000

theorem w64 {a : Int} (h0 : -9223372036854775808 ≤ a) (h1 : a < 9223372036854775808) : IntKind.wrap .i64 a = a := by
  rw [IntKind.wrap_i64]; omega

def sureN (a : Int) : Nat := if 0 ≤ a ∧ a ≤ 5 then a.toNat else 5
theorem sureN_lt (a : Int) : sureN a < 6 := by unfold sureN; split <;> omega
def bes (x y : Nat) : Bool :=
  if x = 0 ∨ y = 0 then true
  else if x = 1 then decide (y ≠ 5)
  else if x = 2 then decide (y = 1 ∨ y = 2)
  else if x = 3 then decide (y = 1 ∨ y = 3)
  else if x = 4 then decide (y = 1)
  else false
def joi (x y : Nat) : Nat := if (x = 3 ∧ y = 2) ∨ (x = 2 ∧ y = 3) then 4 else max x y
def inte (x : Nat) : Nat := if x = 0 then 0 else if x = 1 ∨ x = 3 then 1 else 2
theorem joi_lt {x y : Nat} (hx : x < 6) (hy : y < 6) : joi x y < 6 := by unfold joi; split <;> omega
theorem inte_lt (x : Nat) : inte x < 6 := by unfold inte; split; omega; split <;> omega

theorem six {p : Nat → Prop} (h0 : p 0) (h1 : p 1) (h2 : p 2) (h3 : p 3) (h4 : p 4) (h5 : p 5) {i : Nat} (hi : i < 6) : p i := by
  match i, hi with
  | 0, _ => exact h0
  | 1, _ => exact h1
  | 2, _ => exact h2
  | 3, _ => exact h3
  | 4, _ => exact h4
  | 5, _ => exact h5
theorem all1 {p : Nat → Bool} (h : (List.range 6).all p = true) {i : Nat} (hi : i < 6) : p i = true := List.all_eq_true.1 h i (List.mem_range.2 hi)
theorem all2 {p : Nat → Nat → Bool} (h : (List.range 6).all (fun i => (List.range 6).all (p i)) = true) {i j : Nat} (hi : i < 6) (hj : j < 6) : p i j = true := all1 (all1 h hi) hj
theorem all3 {p : Nat → Nat → Nat → Bool} (h : (List.range 6).all (fun i => (List.range 6).all (fun j => (List.range 6).all (p i j))) = true) {i j k : Nat} (hi : i < 6) (hj : j < 6) (hk : k < 6) : p i j k = true := all1 (all2 h hi hj) hk

def rowV (i : Nat) : List Value := (List.range 6).map fun k => .bool (bes i k)
def tabV : List Value := (List.range 36).map fun k => .bool (bes (k / 6) (k % 6))
theorem idx_tab {i : Nat} (hi : i < 6) (w : World) : (sIndex 138 (.agg tabV.toArray) (.int .i64 i)).run Tryz.prog w = .ok (.value (.agg (rowV i).toArray)) w := by
  revert i; intro i hi; refine six (p := fun i => (sIndex 138 (.agg tabV.toArray) (.int .i64 (i : Nat))).run Tryz.prog w = .ok (.value (.agg (rowV i).toArray)) w) ?_ ?_ ?_ ?_ ?_ ?_ hi <;> kernel_rfl
theorem idx_row {i j : Nat} (hi : i < 6) (hj : j < 6) (w : World) : (sIndex 137 (.agg (rowV i).toArray) (.int .i64 j)).run Tryz.prog w = .ok (.value (.bool (bes i j))) w := by
  refine six (p := fun i => (sIndex 137 (.agg (rowV i).toArray) (.int .i64 (j : Nat))).run Tryz.prog w = .ok (.value (.bool (bes i j))) w) ?_ ?_ ?_ ?_ ?_ ?_ hi <;>
  · revert hj; revert j; intro j hj
    refine six (p := fun j => (sIndex 137 (.agg (rowV _).toArray) (.int .i64 (j : Nat))).run Tryz.prog w = .ok (.value (.bool (bes _ j))) w) ?_ ?_ ?_ ?_ ?_ ?_ hj <;> kernel_rfl
theorem eq_row {i j : Nat} (hi : i < 6) (hj : j < 6) (x y : Operand) (w : World) : (sBin .eql 137 x y (.agg (rowV i).toArray) (.agg (rowV j).toArray)).run Tryz.prog w = .ok (.value (.bool (i == j))) w := by
  refine six (p := fun i => (sBin .eql 137 x y (.agg (rowV i).toArray) (.agg (rowV j).toArray)).run Tryz.prog w = .ok (.value (.bool (i == j))) w) ?_ ?_ ?_ ?_ ?_ ?_ hi <;>
  · revert hj; revert j; intro j hj
    refine six (p := fun j => (sBin .eql 137 x y (.agg (rowV _).toArray) (.agg (rowV j).toArray)).run Tryz.prog w = .ok (.value (.bool (_ == j))) w) ?_ ?_ ?_ ?_ ?_ ?_ hj <;> kernel_rfl
theorem row_one (i : Nat) : ∀ u ∈ rowV i, u.oneCell' = true := by
  intro u hu; obtain ⟨k, _, rfl⟩ := List.mem_map.1 hu; rfl
theorem tab_one : ∀ u ∈ tabV, u.oneCell' = true := by
  intro u hu; obtain ⟨k, _, rfl⟩ := List.mem_map.1 hu; rfl

theorem b0 (w : World) : (sBuild 137 [(0, (.bool true)), (1, (.bool true)), (2, (.bool true)), (3, (.bool true)), (4, (.bool true)), (5, (.bool true))]).run Tryz.prog w = .ok (.value (.agg (rowV 0).toArray)) w := by kernel_rfl
theorem b1 (w : World) : (sBuild 137 [(0, (.bool true)), (1, (.bool true)), (2, (.bool true)), (3, (.bool true)), (4, (.bool true)), (5, (.bool false))]).run Tryz.prog w = .ok (.value (.agg (rowV 1).toArray)) w := by kernel_rfl
theorem b2 (w : World) : (sBuild 137 [(0, (.bool true)), (1, (.bool true)), (2, (.bool true)), (3, (.bool false)), (4, (.bool false)), (5, (.bool false))]).run Tryz.prog w = .ok (.value (.agg (rowV 2).toArray)) w := by kernel_rfl
theorem b3 (w : World) : (sBuild 137 [(0, (.bool true)), (1, (.bool true)), (2, (.bool false)), (3, (.bool true)), (4, (.bool false)), (5, (.bool false))]).run Tryz.prog w = .ok (.value (.agg (rowV 3).toArray)) w := by kernel_rfl
theorem b4 (w : World) : (sBuild 137 [(0, (.bool true)), (1, (.bool true)), (2, (.bool false)), (3, (.bool false)), (4, (.bool false)), (5, (.bool false))]).run Tryz.prog w = .ok (.value (.agg (rowV 4).toArray)) w := by kernel_rfl
theorem b5 (w : World) : (sBuild 137 [(0, (.bool true)), (1, (.bool false)), (2, (.bool false)), (3, (.bool false)), (4, (.bool false)), (5, (.bool false))]).run Tryz.prog w = .ok (.value (.agg (rowV 5).toArray)) w := by kernel_rfl
theorem bT (w : World) : (sBuild 138 [(0, .agg (rowV 0).toArray), (1, .agg (rowV 1).toArray), (2, .agg (rowV 2).toArray), (3, .agg (rowV 3).toArray), (4, .agg (rowV 4).toArray), (5, .agg (rowV 5).toArray)]).run Tryz.prog w = .ok (.value (.agg tabV.toArray)) w := by kernel_rfl

theorem stored_tab {w : World} {g : Nat} {h : List (Nat × Obj)} {z : Value} (hz : z = .agg ((List.range 36).map fun _ => Value.bool false).toArray)
    (hO : Owns w ((g, .cells (z.cells.toList.take 0 ++ tabV ++ z.cells.toList.drop (0 + tabV.length)).toArray 138 (0, 0)) :: h)) : Owns w ((g, .cells tabV.toArray 138 (0, 0)) :: h) := by
  subst hz
  have e : (((Value.agg ((List.range 36).map fun _ => Value.bool false).toArray).cells.toList.take 0 ++ tabV ++ (Value.agg ((List.range 36).map fun _ => Value.bool false).toArray).cells.toList.drop (0 + tabV.length)).toArray) = tabV.toArray := by kernel_rfl
  rwa [e] at hO

theorem table_spec (w : World) : CallsR Tryz.prog 78 #[] w fun r w' => r = .agg tabV.toArray ∧ Upd w w' [] := by
  apply mode_table_sound
  unfold mode_table_x
  refine st_alloc ze138 (Upd.refl w []) (Owns.nil w) ?_
  intro g w1 hU1 hO1 hg
  rw [step_run (b0 _), step_run (b1 _), step_run (b2 _), step_run (b3 _), step_run (b4 _), step_run (b5 _), step_run (bT _)]
  refine st_storeN (vs := tabV) (by rw [sz138]; rfl) hU1 hO1 0 rfl (by simp [tabV, Value.cells]) tab_one (.inr hg) ?_
  intro w2 hU2 hO2
  have hO2 := stored_tab (by kernel_rfl) hO2
  refine st_loadR (u := .agg tabV.toArray) ?_ ⟨rfl, hU2⟩
  exact run_loadVarN ag138 (by rw [sz138]; rfl) (cells_read (hO2.at_ 0 rfl))

theorem Known_spec (w : World) (a : Int) : CallsR Tryz.prog 49 #[.int .i64 a] w fun r w' => r = .bool (decide (0 ≤ a ∧ a ≤ 5)) ∧ w' = w := by
  apply mode_Known_sound
  unfold mode_Known_x
  simp (disch := omega) only [PX, BX]
  refine ⟨fun h => ⟨?_, trivial⟩, fun h => ⟨?_, trivial⟩⟩
  · congr 1; apply decide_eq_decide.2; omega
  · congr 1; symm; apply decide_eq_false; omega

theorem sure_spec (w : World) (a : Int) : CallsR Tryz.prog 73 #[.int .i64 a] w fun r w' => r = .int .i64 (sureN a : Nat) ∧ w' = w := by
  apply mode_sure_sound
  unfold mode_sure_x
  refine st_call (Known_spec w a) ?_
  rintro _ w1 ⟨rfl, rfl⟩
  simp (disch := omega) only [PX, BX]
  unfold sureN
  by_cases h : 0 ≤ a ∧ a ≤ 5
  · rw [if_pos h]
    simp [h, show ((a.toNat : Nat) : Int) = a by omega]
  · rw [if_neg h]
    simp [h]

theorem rSure_spec (w : World) (a : Int) : CallsR Tryz.prog 64 #[.int .i64 a] w fun r w' => r = .int .i64 (sureN a : Nat) ∧ w' = w := by
  apply flotillaref04_Sure_sound
  unfold flotillaref04_Sure_x
  simp (disch := omega) only [PX, BX]
  unfold sureN
  refine ⟨fun h => ?_, fun h => ⟨fun h2 => ?_, fun h2 => ?_⟩⟩
  · rw [if_neg (by omega)]; exact ⟨rfl, trivial⟩
  · rw [if_neg (by omega)]; exact ⟨rfl, trivial⟩
  · rw [if_pos (by omega), show ((a.toNat : Nat) : Int) = a by omega]; exact ⟨rfl, trivial⟩

theorem Beside_spec (w : World) (a b : Int) : CallsR Tryz.prog 61 #[.int .i64 a, .int .i64 b] w fun r w' => r = .bool (bes (sureN a) (sureN b)) ∧ Upd w w' [] := by
  apply mode_Beside_sound
  unfold mode_Beside_x
  have hne : ∃ w', (fun w' => Upd w w' []) w' := ⟨w, Upd.refl w []⟩
  refine st_draw (fun w' => Upd w w' []) (Upd.drew w []) ?_
  refine st_call (table_spec _) ?_
  rintro _ w1 ⟨rfl, hU1⟩
  have hU1 := (Upd.drew w []).trans hU1
  refine st_keepT (fun w' => Upd w w' []) hU1 ?_
  refine st_call (sure_spec _ a) ?_
  rintro _ w2 ⟨rfl, rfl⟩
  refine st_keepT (fun w' => Upd w w' []) hU1 ?_
  rw [stepS_run hne fun w' hw => idx_tab (sureN_lt a) w']
  refine st_call (sure_spec _ b) ?_
  rintro _ w3 ⟨rfl, rfl⟩
  refine st_same hU1 ?_
  rw [stepS_run hne fun w' hw => idx_row (sureN_lt a) (sureN_lt b) w']
  exact ⟨rfl, hU1⟩


def bothK (x y k : Nat) : List Value := (List.range 6).map fun i => .bool (if i < k then bes x i && bes y i else false)
theorem bothK_len (x y k : Nat) : (bothK x y k).length = 6 := by simp [bothK]
theorem bothK_set (x y k : Nat) (hk : k < 6) : (bothK x y k).set k (.bool (bes x k && bes y k)) = bothK x y (k + 1) := by
  apply List.ext_getElem?
  intro j
  by_cases hj : k = j
  · subst hj
    rw [List.getElem?_set_self (by rw [bothK_len]; exact hk)]
    simp [bothK, hk]
  · rw [List.getElem?_set_ne hj]
    by_cases hj6 : j < 6
    · simp only [bothK, List.getElem?_map, List.getElem?_range hj6, Option.map_some]
      by_cases h : j < k
      · rw [if_pos h, if_pos (by omega)]
      · rw [if_neg h, if_neg (by omega)]
    · rw [List.getElem?_eq_none (by rw [bothK_len]; omega), List.getElem?_eq_none (by rw [bothK_len]; omega)]
theorem bothK_6 {x y : Nat} (hx : x < 6) (hy : y < 6) : bothK x y 6 = rowV (joi x y) := by
  unfold bothK rowV
  apply List.map_congr_left
  intro i hi
  have hi6 := List.mem_range.1 hi
  rw [if_pos hi6]
  have := all3 (p := fun x y i => (bes x i && bes y i) == bes (joi x y) i) (by decide +kernel) hx hy hi6
  congr 1
  exact eq_of_beq this

theorem tab_at {i j : Nat} (hi : i < 6) (hj : j < 6) : tabV.toArray[0 + ((i : Nat) : Int).toNat * 6 + ((j : Nat) : Int).toNat * 1]? = some (.bool (bes i j)) := by
  have h : i * 6 + j < 36 := by omega
  rw [show 0 + ((i : Nat) : Int).toNat * 6 + ((j : Nat) : Int).toNat * 1 = i * 6 + j by omega]
  simp [tabV, h, show (i * 6 + j) / 6 = i by omega, show (i * 6 + j) % 6 = j by omega]

theorem Join_spec (w : World) (a b : Int) : CallsR Tryz.prog 72 #[.int .i64 a, .int .i64 b] w fun r w' => r = .int .i64 (joi (sureN a) (sureN b) : Nat) ∧ Upd w w' [] := by
  have hx := sureN_lt a
  have hy := sureN_lt b
  have hj := joi_lt hx hy
  apply mode_Join_sound
  unfold mode_Join_x
  refine st_call (table_spec w) ?_
  rintro _ w0 ⟨rfl, hU0⟩
  refine st_alloc ze138 hU0 (Owns.nil w0) ?_
  intro g w1 hU1 hO1 hg
  refine st_storeN (vs := tabV) (by rw [sz138]; rfl) hU1 hO1 0 rfl (by simp [tabV, Value.cells]) tab_one (.inr hg) ?_
  intro w2 hU2 hO2
  have hO2 := stored_tab (by kernel_rfl) hO2
  refine st_alloc ze137 hU2 hO2 ?_
  intro g6 w3 hU3 hO3 hg6
  have hO3' : Owns w3 [(g6, .cells (bothK (sureN a) (sureN b) 0).toArray 137 (0, 0)), (g, .cells tabV.toArray 138 (0, 0))] := hO3
  refine st_loop (fun vs w' => ∃ i : Nat, i ≤ 6 ∧ vs.getD 1 undef = .int .i64 i ∧ Upd w w' [] ∧ Owns w' [(g6, .cells (bothK (sureN a) (sureN b) i).toArray 137 (0, 0)), (g, .cells tabV.toArray 138 (0, 0))])
    (fun vs _ => 6 - (intOf (vs.getD 1 undef)).toNat) ⟨0, by omega, rfl, hU3, hO3'⟩ ?_
  clear hO1 hO2 hO3 hO3' hU0 hU1 hU2 hU3
  rintro dv vs w4 - ⟨i, hi, e1, hU4, hO4⟩
  simp (disch := omega) only [e1, PX, BX]
  refine ⟨fun hlt => ?_, fun hge => ?_⟩
  · have hi' : i < 6 := by omega
    refine st_call (sure_spec _ a) ?_
    rintro _ w5 ⟨rfl, rfl⟩
    rw [step_run (run_idxA u138 sz137 (by omega) (by omega)), add_mk, step_run (run_idxA u137 sz4 (by omega) (by omega)), add_mk]
    refine st_loadB ag4 hO4 1 rfl (tab_at hx hi') ?_
    have goOn : ∀ w5, Upd w w5 [] → Owns w5 [(g6, .cells ((bothK (sureN a) (sureN b) i).toArray.setIfInBounds (0 + ((i : Nat) : Int).toNat * 1) (.bool (bes (sureN a) i && bes (sureN b) i))) 137 (0, 0)), (g, .cells tabV.toArray 138 (0, 0))] →
      mode_Join_k3 (std Tryz.prog) vs (fun vs' w' => (∃ i : Nat, i ≤ 6 ∧ vs'.getD 1 undef = .int .i64 i ∧ Upd w w' [] ∧ Owns w' [(g6, .cells (bothK (sureN a) (sureN b) i).toArray 137 (0, 0)), (g, .cells tabV.toArray 138 (0, 0))]) ∧ 6 - (intOf (vs'.getD 1 undef)).toNat < 6 - (intOf (Value.int IntKind.i64 (i : Int))).toNat)
        (.int .i64 i) w5 fun r w' => r = .int .i64 (joi (sureN a) (sureN b) : Nat) ∧ Upd w w' [] := by
      intro w5 hU5 hO5
      unfold mode_Join_k3
      simp (disch := omega) only [e1, PX, w64]
      refine ⟨⟨i + 1, by omega, rfl, hU5, ?_⟩, ?_⟩
      · rw [show 0 + ((i : Nat) : Int).toNat * 1 = i by omega] at hO5
        rw [← bothK_set _ _ i hi']
        simpa using hO5
      · simp only [List.getD_cons_succ, List.getD_cons_zero, intOf]; omega
    rw [bool_var]
    refine ⟨fun hb => ?_, fun hb => ?_⟩
    · refine st_call (sure_spec _ b) ?_
      rintro _ w5 ⟨rfl, rfl⟩
      rw [step_run (run_idxA u138 sz137 (by omega) (by omega)), add_mk, step_run (run_idxA u137 sz4 (by omega) (by omega)), add_mk]
      refine st_loadB ag4 hO4 1 rfl (tab_at hy hi') ?_
      rw [step_run (run_idxA u137 sz4 (by omega) (by omega)), add_mk]
      refine st_storeB sz4 rfl hU4 hO4 0 rfl (by simp [bothK_len]; omega) (.inr (Nat.zero_le _)) (.inr hg6) ?_
      intro w6 hU6 hO6
      refine goOn w6 hU6 ?_
      rw [hb, Bool.true_and]
      exact hO6
    · rw [step_run (run_idxA u137 sz4 (by omega) (by omega)), add_mk]
      refine st_storeB sz4 rfl hU4 hO4 0 rfl (by simp [bothK_len]; omega) (.inr (Nat.zero_le _)) (.inr hg6) ?_
      intro w6 hU6 hO6
      refine goOn w6 hU6 ?_
      rw [hb, Bool.false_and]
      exact hO6
  · obtain rfl : i = 6 := by omega
    rw [bothK_6 hx hy] at hO4
    unfold mode_Join_k1
    refine st_loop (fun vs w' => ∃ m : Nat, m ≤ joi (sureN a) (sureN b) ∧ vs.getD 2 undef = .int .i64 m ∧ Upd w w' [] ∧ Owns w' [(g6, .cells (rowV (joi (sureN a) (sureN b))).toArray 137 (0, 0)), (g, .cells tabV.toArray 138 (0, 0))])
      (fun vs _ => 6 - (intOf (vs.getD 2 undef)).toNat) ⟨0, by omega, rfl, hU4, hO4⟩ ?_
    rintro dv vs w5 - ⟨m, hm, e2, hU5, hO5⟩
    have hm6 : m < 6 := by omega
    simp (disch := omega) only [e2, PX, BX]
    refine ⟨fun _ => ?_, fun h => absurd (by omega) h⟩
    have hne : ∃ w', (fun w' => Upd w5 w' []) w' := ⟨w5, Upd.refl w5 []⟩
    refine st_draw (fun w' => Upd w5 w' []) (Upd.drew w5 []) ?_
    rw [stepS_run hne fun w' hw => run_idxA u138 sz137 (by omega) (by omega), add_mk]
    have hrow : ∀ w', Upd w5 w' [] → (sLoad 137 (.pointer (some ⟨g, 0 + ((m : Nat) : Int).toNat * 6, none⟩))).run Tryz.prog w' = .ok (.value (.agg (rowV m).toArray)) w' := fun w' hw =>
      run_sLoad (run_loadVarN ag137 (by rw [sz137]; simp [rowV]) fun j v hj => by
        have hj6 : j < 6 := by have := (List.getElem?_eq_some_iff.1 hj).1; simpa [rowV] using this
        rw [add_mk, cell_at ((hO5.ext hw).at_ 1 rfl)]
        have := tab_at hm6 hj6
        rw [show 0 + ((m : Nat) : Int).toNat * 6 + ((j : Nat) : Int).toNat * 1 = 0 + ((m : Nat) : Int).toNat * 6 + j by omega] at this
        rw [this]
        simp [rowV, hj6] at hj
        rw [hj])
    have hboth : ∀ w', Upd w5 w' [] → (sLoad 137 (.pointer (some ⟨g6, 0, none⟩))).run Tryz.prog w' = .ok (.value (.agg (rowV (joi (sureN a) (sureN b))).toArray)) w' := fun w' hw =>
      run_sLoad (run_loadVarN ag137 (by rw [sz137]; simp [rowV]) (cells_read ((hO5.ext hw).at_ 0 rfl)))
    rw [stepS_run hne hrow, stepS_run hne hboth, stepS_run hne fun w' hw => eq_row hm6 hj _ _ w', bool_var]
    refine ⟨fun he => ?_, fun he => ?_⟩
    · rw [eq_of_beq he]
      exact ⟨rfl, hU5.trans (Upd.drew w5 [])⟩
    · simp (disch := omega) only [PX, w64]
      have hne2 : m ≠ joi (sureN a) (sureN b) := by
        intro h; rw [h, beq_self_eq_true] at he; cases he
      refine ⟨⟨m + 1, by omega, rfl, hU5.trans (Upd.drew w5 []), hO5.ext (Upd.drew w5 [])⟩, ?_⟩
      simp only [List.getD_cons_succ, List.getD_cons_zero, intOf]; omega

def cov (x y : Nat) : Bool := joi x y == x

theorem Covers_spec (w : World) (a b : Int) : CallsR Tryz.prog 50 #[.int .i64 a, .int .i64 b] w fun r w' => r = .bool (cov (sureN a) (sureN b)) ∧ Upd w w' [] := by
  apply mode_Covers_sound
  unfold mode_Covers_x
  refine st_call (Join_spec w a b) ?_
  rintro _ w1 ⟨rfl, hU1⟩
  refine st_call (sure_spec w1 a) ?_
  rintro _ w2 ⟨rfl, rfl⟩
  simp (disch := omega) only [PX]
  refine ⟨?_, hU1⟩
  congr 1
  unfold cov
  rw [show (joi (sureN a) (sureN b) == sureN a) = decide (joi (sureN a) (sureN b) = sureN a) from rfl]
  apply decide_eq_decide.2
  omega


theorem bes_comm {x y : Nat} (hx : x < 6) (hy : y < 6) : bes x y = bes y x := eq_of_beq (all2 (p := fun x y => bes x y == bes y x) (by decide +kernel) hx hy)
theorem rBeside_tail (w : World) {x y : Nat} (hx : x < 6) (hy : y < 6) (hxy : x ≤ y) {K : Value → World → Prop} (hk : K (.bool (bes x y)) w) : flotillaref04_Beside_k1 (std Tryz.prog) (.int .i64 x) (.int .i64 y) w K := by
  unfold flotillaref04_Beside_k1
  simp (disch := omega) only [PX, BX]
  unfold bes at hk
  have bd : ∀ {p q : Prop} [Decidable p] [Decidable q], (p ↔ q) → decide p = decide q := fun h => decide_eq_decide.2 h
  refine ⟨fun h => ?_, fun h => ⟨fun h1 => ?_, fun h1 => ⟨fun h2 => ?_, fun h2 => ⟨fun h3 => ?_, fun h3 => ?_⟩⟩⟩⟩
  · rw [if_pos (by omega)] at hk; exact hk
  · rw [if_neg (by omega), if_pos (by omega)] at hk; rw [bd (show ¬((y : Int) = 5) ↔ y ≠ 5 by omega)]; exact hk
  · rw [if_neg (by omega), if_neg (by omega), if_pos (by omega)] at hk; rw [bd (show ((y : Int) = 2) ↔ (y = 1 ∨ y = 2) by omega)]; exact hk
  · rw [if_neg (by omega), if_neg (by omega), if_neg (by omega), if_pos (by omega)] at hk; rw [bd (show ((y : Int) = 3) ↔ (y = 1 ∨ y = 3) by omega)]; exact hk
  · rw [if_neg (by omega), if_neg (by omega), if_neg (by omega), if_neg (by omega)] at hk
    by_cases h4 : x = 4
    · rw [if_pos h4, decide_eq_false (by omega)] at hk; exact hk
    · rw [if_neg h4] at hk; exact hk

theorem rBeside_spec (w : World) (a b : Int) : CallsR Tryz.prog 40 #[.int .i64 a, .int .i64 b] w fun r w' => r = .bool (bes (sureN a) (sureN b)) ∧ w' = w := by
  apply flotillaref04_Beside_sound
  unfold flotillaref04_Beside_x
  refine st_call (rSure_spec w a) ?_
  rintro _ w1 ⟨rfl, rfl⟩
  refine st_call (rSure_spec w1 b) ?_
  rintro _ w2 ⟨rfl, rfl⟩
  simp (disch := omega) only [PX, BX]
  refine ⟨fun h => rBeside_tail w2 (sureN_lt b) (sureN_lt a) (by omega) ⟨?_, rfl⟩, fun h => rBeside_tail w2 (sureN_lt a) (sureN_lt b) (by omega) ⟨rfl, rfl⟩⟩
  rw [bes_comm (sureN_lt b) (sureN_lt a)]

theorem rCovers_spec (w : World) (a b : Int) : CallsR Tryz.prog 55 #[.int .i64 a, .int .i64 b] w fun r w' => r = .bool (cov (sureN a) (sureN b)) ∧ w' = w := by
  apply flotillaref04_Covers_sound
  unfold flotillaref04_Covers_x
  refine st_call (rSure_spec w a) ?_
  rintro _ w1 ⟨rfl, rfl⟩
  refine st_call (rSure_spec w1 b) ?_
  rintro _ w2 ⟨rfl, rfl⟩
  have hx := sureN_lt a
  have hy := sureN_lt b
  generalize sureN a = x at hx
  generalize sureN b = y at hy
  have key := all2 (p := fun x y => cov x y == (decide (y ≤ x) && !(decide (x = 3) && decide (y = 2)))) (by decide +kernel) hx hy
  have key := eq_of_beq key
  rw [key]
  simp (disch := omega) only [PX, BX, flotillaref04_Covers_k1]
  refine ⟨fun h => ⟨fun h3 => ?_, fun h3 => ?_⟩, fun h => ?_⟩
  · rw [decide_eq_true (show y ≤ x by omega), decide_eq_true (show x = 3 by omega), Bool.true_and, Bool.true_and]
    refine ⟨?_, trivial⟩
    congr 2
    exact decide_eq_decide.2 (by omega)
  · rw [decide_eq_true (show y ≤ x by omega), decide_eq_false (show ¬ x = 3 by omega)]
    exact ⟨rfl, trivial⟩
  · rw [decide_eq_false (show ¬ y ≤ x by omega)]
    exact ⟨rfl, trivial⟩


theorem sureN_of {x : Nat} (h : x < 6) : sureN (x : Int) = x := by unfold sureN; rw [if_pos (by omega)]; omega
theorem cov_l {x y : Nat} (hx : x < 6) (hy : y < 6) : cov (joi x y) x = true := all2 (p := fun x y => cov (joi x y) x) (by decide +kernel) hx hy
theorem cov_r {x y : Nat} (hx : x < 6) (hy : y < 6) : cov (joi x y) y = true := all2 (p := fun x y => cov (joi x y) y) (by decide +kernel) hx hy
theorem cov_below {x y m : Nat} (hx : x < 6) (hy : y < 6) (hm : m < 6) (h1 : cov m x = true) (h2 : cov m y = true) : joi x y ≤ m := by
  have := all3 (p := fun x y m => !(cov m x && cov m y) || decide (joi x y ≤ m)) (by decide +kernel) hx hy hm
  simpa [h1, h2] using this
theorem rJoin_spec (w : World) (a b : Int) : CallsR Tryz.prog 38 #[.int .i64 a, .int .i64 b] w fun r w' => r = .int .i64 (joi (sureN a) (sureN b) : Nat) ∧ w' = w := by
  have hx := sureN_lt a
  have hy := sureN_lt b
  have hj := joi_lt hx hy
  apply flotillaref04_Join_sound
  unfold flotillaref04_Join_x
  refine st_loop (fun vs w' => ∃ m : Nat, m ≤ joi (sureN a) (sureN b) ∧ m ≤ 5 ∧ vs.getD 1 undef = .int .i64 m ∧ w' = w) (fun vs _ => 6 - (intOf (vs.getD 1 undef)).toNat) ⟨0, by omega, by omega, rfl, rfl⟩ ?_
  rintro dv vs w1 - ⟨m, hm, hm5, e1, rfl⟩
  simp (disch := omega) only [e1, PX, BX]
  refine ⟨fun hlt => ?_, fun hge => ?_⟩
  · have hm6 : m < 6 := by omega
    have goOn : ¬ m = joi (sureN a) (sureN b) → flotillaref04_Join_k2 (std Tryz.prog) vs (fun vs' w' => (∃ m : Nat, m ≤ joi (sureN a) (sureN b) ∧ m ≤ 5 ∧ vs'.getD 1 undef = .int .i64 m ∧ w' = w1) ∧ 6 - (intOf (vs'.getD 1 undef)).toNat < 6 - (intOf (Value.int IntKind.i64 (m : Int))).toNat)
        (vs.getD 0 undef) w1 fun r w' => r = .int .i64 (joi (sureN a) (sureN b) : Nat) ∧ w' = w1 := by
      intro hne
      unfold flotillaref04_Join_k2
      simp (disch := omega) only [e1, PX, w64]
      refine ⟨⟨m + 1, by omega, by omega, rfl, trivial⟩, ?_⟩
      simp only [List.getD_cons_succ, List.getD_cons_zero, intOf]; omega
    refine st_call (rCovers_spec w1 m a) ?_
    rintro _ w2 ⟨rfl, rfl⟩
    rw [sureN_of hm6, bool_var]
    refine ⟨fun h1 => ?_, fun h1 => goOn ?_⟩
    · refine st_call (rCovers_spec w2 m b) ?_
      rintro _ w3 ⟨rfl, rfl⟩
      rw [sureN_of hm6, bool_var]
      refine ⟨fun h2 => ?_, fun h2 => goOn ?_⟩
      · have := cov_below hx hy hm6 h1 h2
        have he : m = joi (sureN a) (sureN b) := by omega
        rw [he]; exact ⟨rfl, rfl⟩
      · intro he; rw [he, cov_r hx hy] at h2; cases h2
    · intro he; rw [he, cov_l hx hy] at h1; cases h1
  · unfold flotillaref04_Join_k1
    rw [show joi (sureN a) (sureN b) = 5 by omega]
    exact ⟨rfl, rfl⟩


end Go.Proofs.YtakifgecgmdjcaaGreat

/- What comes in: slices of whatever, opened as lists. -/
namespace Go.Proofs.YtakifgecgmdjcaaGreat
open Go Xf Go.RowKit Go.ChangeShapes Go.WideShapes
set_option linter.unusedVariables false

section
variable {H : Type} {enc : TypeId × Value → H} {P : Program} {w : World} {held : Bool}

theorem rd_of_trod {t e : TypeId} {fuel : Nat} {v : Value} {x : DataW H × List MemPlace} (ht : P.underlying t = some (.slice e)) (he : P.underlying e = some (.int .u8)) (hc : P.cellsOf e = 1)
    (h : DataW.trod enc P w 0 (fun _ => true) held fuel t [v] = some x) : ∃ (l : List UInt8) (a : Option Addr) (c : Nat), v = .slice a l.length c ∧ l.length ≤ maxLen ∧ Rd w 1 v l.length (bytesV l) := by
  rcases open_ints ht he hc h with ⟨hcs, _⟩ | ⟨y, len, c, zs, hcs, _, hl, hm, hz, hx, hcell, hwz⟩
  · simp at hcs
    subst hcs
    exact ⟨[], none, 0, rfl, Nat.zero_le _, Rd.nil_ _ _⟩
  · simp at hcs
    subst hcs
    obtain ⟨l, h1, h2, h3⟩ := rd_of_nums (w := w) (a := some y) (len := len) (cap := c) (zs := zs) (.inr ⟨_, rfl, hl, hm, by simpa using hz, hcell, hwz⟩)
    exact ⟨l, some y, c, by rw [h1], h2, by rw [h1]; exact h3⟩

/-- a [][]byte that reads as the rows ls -/
def RdRows (w : World) (v : Value) (ls : List (List UInt8)) : Prop :=
  ∃ (a : Option Addr) (c : Nat), v = .slice a ls.length c ∧ ls.length ≤ maxLen ∧ ∀ i l, ls[i]? = some l → ∃ (q : Addr) (A : Option Addr) (cc : Nat), a = some q ∧ w.cell? (q.add i) = some (.slice A l.length cc) ∧ l.length ≤ maxLen ∧ Rd w 1 (.slice A l.length cc) l.length (bytesV l)

theorem rows_of_trod {t m e : TypeId} {fuel : Nat} {v : Value} {x : DataW H × List MemPlace} (ht : P.underlying t = some (.slice m)) (hm1 : P.cellsOf m = 1) (hm : P.underlying m = some (.slice e)) (he : P.underlying e = some (.int .u8)) (hc : P.cellsOf e = 1)
    (h : DataW.trod enc P w 0 (fun _ => true) held fuel t [v] = some x) : ∃ ls : List (List UInt8), RdRows w v ls := by
  rcases Deep.open_slice1 ht hm1 h with ⟨hcs, _⟩ | ⟨a, len, cap, mm, n, V, D, Pl, hcs, _, hl, hml, hmm, _, hx⟩
  · simp at hcs
    subst hcs
    exact ⟨[], none, 0, rfl, Nat.zero_le _, fun i l h => by simp at h⟩
  · simp at hcs
    subst hcs
    simp at hmm
    have hx' : ∀ i, i < len → ∃ l : List UInt8, w.cell? (a.add i) = some (V i) ∧ ∃ (A : Option Addr) (c : Nat), V i = .slice A l.length c ∧ l.length ≤ maxLen ∧ Rd w 1 (V i) l.length (bytesV l) := by
      intro i hi
      obtain ⟨h1, h2⟩ := hx i (by omega)
      obtain ⟨l, A, c, h3, h4, h5⟩ := rd_of_trod hm he hc h2
      exact ⟨l, h1, A, c, h3, h4, h5⟩
    obtain ⟨f, hf⟩ := Deep.choose_lt hx'
    refine ⟨(List.range len).map f, some a, cap, by simp, by simp; omega, fun i l hi => ?_⟩
    obtain ⟨hi1, hi2⟩ := List.getElem?_eq_some_iff.1 hi
    simp at hi1 hi2
    subst hi2
    obtain ⟨h1, A, c, h3, h4, h5⟩ := hf i hi1
    exact ⟨a, A, c, rfl, by rw [← h3]; exact h1, h4, by rw [← h3]; exact h5⟩
end
end Go.Proofs.YtakifgecgmdjcaaGreat

/- Slices of whole numbers, and rows. -/
namespace Go.Proofs.YtakifgecgmdjcaaGreat
open Go Xf Go.RowKit Go.ChangeShapes Go.WideShapes
set_option linter.unusedVariables false
set_option linter.unusedSimpArgs false

def intsV (k : IntKind) (l : List Int) : List Value := l.map fun n => .int k n
theorem intsV_len (k : IntKind) (l : List Int) : (intsV k l).length = l.length := by simp [intsV]
theorem intsV_one (k : IntKind) (l : List Int) : ∀ y ∈ intsV k l, y.oneCell' = true := by
  intro y hy; obtain ⟨n, _, rfl⟩ := List.mem_map.1 hy; rfl
theorem intsV_append (k : IntKind) (a b : List Int) : intsV k a ++ intsV k b = intsV k (a ++ b) := by simp [intsV]

theorem rd_row {w : World} {g n c : Nat} {cs : Array Value} {e : TypeId} {fr : Nat × Nat} {xs : List Value} (h : w.heap[g]? = some (.cells cs e fr)) (hn : xs.length = n) (hc : n ≤ c) (hx : cs.toList.take n = xs) : Rd w 1 (.slice (some ⟨g, 0, none⟩) n c) n xs := by
  refine ⟨_, _, rfl, hc, by omega, fun j u hu => ⟨_, rfl, ?_⟩⟩
  rw [add_mk, Nat.zero_add, cell_at h]
  rw [← hx, List.getElem?_take] at hu
  split at hu
  · simpa using hu
  · cases hu
/-- a slice that reads, opened at a place, in a later world -/
theorem Rd.cell {w w' : World} {v : Value} {n : Nat} {xs : List Value} (hr : Rd w 1 v n xs) (hU : Upd w w' []) {i : Nat} {u : Value} (hi : xs[i]? = some u) :
    ∃ A c a, v = .slice A n c ∧ A = some a ∧ w'.cell? (a.add ((i : Int).toNat * 1)) = some u := by
  obtain ⟨A, c, he, _, _, hc⟩ := hr
  obtain ⟨a, ha, hx⟩ := hc i u hi
  refine ⟨A, c, a, he, ha, ?_⟩
  rw [show (i : Int).toNat * 1 = i by omega, hU.cell (World.block_lt_of_cell? w _ hx) (by simp)]; exact hx
theorem row_nil (e : TypeId) (g : Nat) : RowH e 1 (.slice (some ⟨g, 0, none⟩) 0 0) 0 [] [(g, .cells #[] e)] := ⟨rfl, .inr ⟨g, 0, #[], rfl, rfl, Nat.le_refl _, Nat.zero_le _, rfl, rfl⟩⟩

section
variable {H : Type} {enc : TypeId × Value → H} {P : Program} {w : World} {held : Bool}
theorem ints_of_trod {t e : TypeId} {k : IntKind} {fuel : Nat} {v : Value} {x : DataW H × List MemPlace} (ht : P.underlying t = some (.slice e)) (he : P.underlying e = some (.int k)) (hc : P.cellsOf e = 1)
    (h : DataW.trod enc P w 0 (fun _ => true) held fuel t [v] = some x) : ∃ (l : List Int) (a : Option Addr) (c : Nat), v = .slice a l.length c ∧ l.length ≤ maxLen ∧ Rd w 1 v l.length (intsV k l) ∧ ∀ n ∈ l, (Lit.int k n).wf = true := by
  rcases open_ints ht he hc h with ⟨hcs, _⟩ | ⟨y, len, c, zs, hcs, _, hl, hm, hz, hx, hcell, hwz⟩
  · simp at hcs
    subst hcs
    exact ⟨[], none, 0, rfl, Nat.zero_le _, Rd.nil_ _ _, fun n hn => by cases hn⟩
  · simp at hcs
    subst hcs
    simp at hz
    have hlen : (zs.take len).length = len := by simp; omega
    refine ⟨zs.take len, some y, c, by rw [hlen], by omega, ?_, fun n hn => hwz n (List.mem_of_mem_take hn)⟩
    rw [hlen]
    refine ⟨some y, c, rfl, hl, by simp [intsV]; omega, fun j u hu => ⟨y, rfl, ?_⟩⟩
    have hj : j < len := by
      have := (List.getElem?_eq_some_iff.1 hu).1
      simp [intsV] at this
      omega
    have hj2 : j < zs.length := by omega
    rw [hcell j hj2]
    simp [intsV, hj, hj2, List.getElem?_take] at hu
    simp [List.getD, hj2, hu]
end

section
variable {P : Program} {w W : World} {K : Value → World → Prop}

theorem run_copyN (w : World) (dT sT ty elem : TypeId) (sz g o dLen dCap : Nat) (a : Addr) (sLen sCap : Nat) (cur : Array Value) (t : TypeId) (cs : List Value)
    (hu : P.underlying dT = some (.slice elem)) (hs : (P.info? elem).map (·.size) = some sz)
    (hg : w.heap[g]? = some (.cells cur t (0, 0))) (hn : cs.length = Nat.min sLen dLen * sz)
    (hsrc : ∀ j v, cs[j]? = some v → w.cell? (a.add j) = some v) (hfit : o + cs.length ≤ cur.size) (h1 : ∀ v ∈ cs, v.oneCell' = true) :
    (Builtin.copy_ #[dT, sT] ty #[.slice (some ⟨g, o, none⟩) dLen dCap, .slice (some a) sLen sCap]).run P w =
      .ok (goInt (Nat.min sLen dLen)) (w.setRow g (cur.toList.take o ++ cs ++ cur.toList.drop (o + cs.length)).toArray) := by
  have hl := run_loadCells_list (P := P) w a cs hsrc
  have hst := run_storeCells_at P g o t cs 0 cur w hg (by simpa using hfit) h1
  cases hq : P.info? elem with
  | none => simp [hq] at hs
  | some i =>
    have hi : i.size = sz := by simpa [hq] using hs
    simp [Builtin.copy_, run_underlying hu, Builtin.lenOf, Builtin.firstCells, sizeOf, typeInfo, hq, hi, ← hn, hl, hst]

/-- all of a slice is copied into a row that is as long -/
theorem st_copy {t t' e te ty : TypeId} {c : List Bool} {sz n cap g : Nat} {v : Value} {xs : List Value} {cur : Array Value} {h : List (Nat × Obj)} {ks : List Nat} (ht : P.underlying t = some (.slice e)) (hsz : (P.info? e).map (·.size) = some sz)
    (hU : Upd W w ks) (hO : Owns w h) (i : Nat) (hi : h[i]? = some (g, .cells cur te (0, 0))) (hr : Rd w sz v n xs) (hfit : xs.length ≤ cur.size) (h1 : ∀ u ∈ xs, u.oneCell' = true) (hg : g ∈ ks ∨ W.heap.size ≤ g)
    (hk : ∀ w', Upd W w' ks → Owns w' (h.set i (g, .cells (xs ++ cur.toList.drop xs.length).toArray te (0, 0))) → K (.int .i64 n) w') :
    (std P).step (sBuiltin .copy #[t, t'] ty c [.slice (some ⟨g, 0, none⟩) n cap, v]) w K := by
  obtain ⟨A, cc, rfl, hcc, hl, hrd⟩ := hr
  have hb := hO.at_ i hi
  have hrun : ∀ {u : Value} {w' : World}, (Builtin.copy_ #[t, t'] ty #[.slice (some ⟨g, 0, none⟩) n cap, .slice A n cc]).run P w = .ok u w' → (sBuiltin .copy #[t, t'] ty c [.slice (some ⟨g, 0, none⟩) n cap, .slice A n cc]).run P w = .ok (.value u) w' := by
    intro u w' h
    show (do pure (.value (← Builtin.copy_ #[t, t'] ty #[.slice (some ⟨g, 0, none⟩) n cap, .slice A n cc])) : Sem Next).run P w = _
    rw [Sem.run_bind, h]; rfl
  by_cases hx : xs = []
  · subst hx
    have hz : (Builtin.copy_ #[t, t'] ty #[.slice (some ⟨g, 0, none⟩) n cap, .slice A n cc]).run P w = .ok (goInt n) w := by
      cases hq : P.info? e with
      | none => simp [hq] at hsz
      | some i =>
        have hi : i.size = sz := by simpa [hq] using hsz
        have h0 : n * sz = 0 := by simpa using hl.symm
        cases A with
        | none => simp [Builtin.copy_, run_underlying ht, Builtin.lenOf, Builtin.firstCells, sizeOf, typeInfo, hq, hi, h0, storeCells]
        | some a => simp [Builtin.copy_, run_underlying ht, Builtin.lenOf, Builtin.firstCells, sizeOf, typeInfo, hq, hi, h0, storeCells, loadCells, loadCellsFrom]
    rw [step_run (hrun hz)]
    refine hk w hU ?_
    have : (g, Obj.cells ([] ++ cur.toList.drop ([] : List Value).length).toArray te (0, 0)) = (g, Obj.cells cur te (0, 0)) := by simp
    rw [this]
    have : h.set i (g, Obj.cells cur te (0, 0)) = h := by
      apply List.ext_getElem?
      intro j
      by_cases hij : i = j
      · subst hij; rw [List.getElem?_set_self (List.getElem?_eq_some_iff.1 hi).1, hi]
      · rw [List.getElem?_set_ne hij]
    rw [this]; exact hO
  · obtain ⟨x, xs', rfl⟩ := List.exists_cons_of_ne_nil hx
    obtain ⟨a, rfl, _⟩ := hrd 0 x rfl
    have hsrc : ∀ j u, (x :: xs')[j]? = some u → w.cell? (a.add j) = some u := fun j u hj => by
      obtain ⟨a', ha, hc⟩ := hrd j u hj
      injection ha with ha; subst ha; exact hc
    have := run_copyN (P := P) w t t' ty e sz g 0 n cap a n cc cur te (x :: xs') ht hsz hb (by simpa using hl) hsrc (by simpa using hfit) h1
    rw [show Nat.min n n = n from Nat.min_self n] at this
    rw [step_run (hrun this)]
    have e : (cur.toList.take 0 ++ (x :: xs') ++ cur.toList.drop (0 + (x :: xs').length)).toArray = ((x :: xs') ++ cur.toList.drop (x :: xs').length).toArray := by simp
    rw [e]
    exact hk _ (hU.then_ (Upd.setRow _ _ _) fun y hy => by simp at hy; subst hy; exact hg) (hO.setRow i hi _)

theorem st_make {t e : TypeId} {i : TypeInfo} {z : Value} {sz bytes : Nat} {q : IntKind} {n : Nat} {h : List (Nat × Obj)} {ks : List Nat} (ht : P.underlying t = some (.slice e)) (hi : P.info? e = some i) (hz : i.zero = some z) (hs : i.size = sz) (hb : i.bytes = bytes)
    (hby : bytes * n ≤ 281474976710656) (h63 : n ≤ 9223372036854775807) (hU : Upd W w ks) (hO : Owns w h)
    (hk : ∀ g w', Upd W w' ks → Owns w' ((g, .cells (madeCells z.cells (n * sz)) e) :: h) → W.heap.size ≤ g → K (.slice (some ⟨g, 0, none⟩) n n) w') : (std P).step (sMakeSlice t (.int q n) (.int q n)) w K := by
  subst hs hb
  refine st_newRow (fun w => ?_) hU hO hk
  have h2 : ((i.bytes * n : Nat) : Int) ≤ 281474976710656 := by omega
  rw [Int.natCast_mul] at h2
  have := run_make (P := P) w t e i z ht hi hz q q n n (by omega) (by omega) h2 (by omega)
  unfold sMakeSlice
  rw [run_sV, this, Int.toNat_natCast]
  rfl
end
end Go.Proofs.YtakifgecgmdjcaaGreat

/- Structs that come in: slices of them, and by value. -/
namespace Go.Proofs.YtakifgecgmdjcaaGreat
open Go Xf Go.RowKit Go.ChangeShapes Go.WideShapes Go.Deep
set_option linter.unusedVariables false
set_option linter.unusedSimpArgs false

/-! rows of structs -/

theorem flat_at {α : Type} (f : α → List Value) (k : Nat) (hf : ∀ x, (f x).length = k) : ∀ (l : List α) (i : Nat) (hi : i < l.length) (j : Nat) (hj : j < k), (l.flatMap f)[i * k + j]? = (f l[i])[j]?
  | [], i, hi, j, hj => by simp at hi
  | x :: l, 0, hi, j, hj => by
    rw [List.flatMap_cons, List.getElem?_append_left (by rw [hf]; omega), Nat.zero_mul, Nat.zero_add]
    rfl
  | x :: l, i + 1, hi, j, hj => by
    rw [List.flatMap_cons, List.getElem?_append_right (by rw [hf, Nat.succ_mul]; omega), hf, show (i + 1) * k + j - k = i * k + j by rw [Nat.succ_mul]; omega, flat_at f k hf l i (by simpa using hi) j hj]
    rfl
theorem flat_len {α : Type} (f : α → List Value) (k : Nat) (hf : ∀ x, (f x).length = k) : ∀ l : List α, (l.flatMap f).length = l.length * k
  | [] => by simp
  | x :: l => by rw [List.flatMap_cons, List.length_append, hf, flat_len f k hf l, List.length_cons, Nat.succ_mul]; omega
/-- one of the structs of a slice, in a later world -/
theorem Rd.row {α : Type} {w : World} {A : Option Addr} {n c k : Nat} {f : α → List Value} (hf : ∀ x, (f x).length = k) (hk : 0 < k) {l : List α} (hr : Rd w k (.slice A n c) n (l.flatMap f)) {i : Nat} (hi : i < l.length) :
    ∃ a, A = some a ∧ ∀ w', Upd w w' [] → ∀ j u, (f l[i])[j]? = some u → w'.cell? (a.add (((i : Nat) : Int).toNat * k + j)) = some u := by
  obtain ⟨A', c', he, _, _, hc⟩ := hr
  injection he with h1 h2 h3
  subst h1
  rw [show ((i : Nat) : Int).toNat = i by omega]
  have h0 : (l.flatMap f)[i * k + 0]? = some ((f l[i])[0]'(by rw [hf]; exact hk)) := by
    rw [flat_at f k hf l i hi 0 hk]; exact List.getElem?_eq_getElem _
  obtain ⟨a, ha, _⟩ := hc _ _ h0
  refine ⟨a, ha, fun w' hU j u hu => ?_⟩
  have hj : j < k := by rw [← hf l[i]]; exact (List.getElem?_eq_some_iff.1 hu).1
  obtain ⟨a', ha', hx⟩ := hc (i * k + j) u (by rw [flat_at f k hf l i hi j hj]; exact hu)
  rw [ha] at ha'
  injection ha' with ha'
  subst ha'
  rw [hU.cell (World.block_lt_of_cell? w _ hx) (by simp)]; exact hx

/-- worlds in which the old blocks stand as in W, and these -/
def SU (W : World) (h : List (Nat × Obj)) (w' : World) : Prop := Upd W w' [] ∧ Owns w' h
theorem SU.drew {W w : World} {h : List (Nat × Obj)} (hU : Upd W w []) (hO : Owns w h) : SU W h w.drew := ⟨hU.trans (Upd.drew w []), hO.ext (Upd.drew w [])⟩

def in64 (n : Int) : Prop := -9223372036854775808 ≤ n ∧ n < 9223372036854775808
theorem in64_wf {n : Int} (h : (Lit.int .i64 n).wf = true) : in64 n := by
  simp only [Lit.wf, Bool.and_eq_true, decide_eq_true_eq] at h
  have e1 : IntKind.min .i64 = -9223372036854775808 := by decide
  have e2 : IntKind.max .i64 = 9223372036854775807 := by decide
  rw [e1, e2] at h
  unfold in64; omega

/-- the kinds of fields that are one cell -/
inductive Kd where
  | int (k : IntKind)
  | bool
  | str
def KdOk : Kd → Value → Prop
  | .int k, v => ∃ n, v = .int k n ∧ (Lit.int k n).wf = true
  | .bool, v => ∃ b, v = .bool b
  | .str, v => ∃ l : List UInt8, v = .string ⟨l.toArray⟩
def Kd.desc : Kd → TypeDesc → Bool
  | .int k, .int k' => k == k'
  | .bool, .bool => true
  | .str, .string => true
  | _, _ => false
def RowOk (ks : List Kd) (row : List Value) : Prop := row.length = ks.length ∧ ∀ (j : Nat) (k : Kd), ks[j]? = some k → ∃ v, row[j]? = some v ∧ KdOk k v

section
variable {H : Type} {enc : TypeId × Value → H} {P : Program} {w : World} {held : Bool}
theorem kd_of_trod {base : Nat} {spare : Nat → Bool} {t : TypeId} {k : Kd} {fuel : Nat} {v : Value} {x : DataW H × List MemPlace} (ht : (P.underlying t).map k.desc = some true) (h : DataW.trod enc P w base spare held fuel t [v] = some x) : KdOk k v := by
  cases hu : P.underlying t with
  | none => rw [hu] at ht; cases ht
  | some d =>
    rw [hu] at ht
    simp only [Option.map_some, Option.some.injEq] at ht
    cases k with
    | int k =>
      cases d <;> first | cases ht | skip
      rename_i k'
      have : k = k' := by cases k <;> cases k' <;> first | rfl | cases ht
      subst this
      obtain ⟨n, h1, _, h3⟩ := Go.DataW.trod_int hu h
      exact ⟨n, by simpa using h1, h3⟩
    | bool =>
      cases d <;> first | cases ht | skip
      obtain ⟨b, h1, _⟩ := Go.DataW.trod_bool hu h
      exact ⟨b, by simpa using h1⟩
    | str =>
      cases d <;> first | cases ht | skip
      obtain ⟨s, h1, _⟩ := Go.DataW.trod_string hu h
      obtain ⟨l, rfl⟩ := mk_surj s
      exact ⟨l, by simpa using h1⟩

def kdB (P : Program) : List Field → List Kd → Bool
  | [], [] => true
  | f :: fs, k :: ks => (P.underlying f.type).map k.desc == some true && kdB P fs ks
  | _, _ => false
theorem kdB_at : ∀ {fs : List Field} {ks : List Kd}, kdB P fs ks = true → ks.length = fs.length ∧ ∀ (j : Nat) (k : Kd), ks[j]? = some k → ∃ f, fs[j]? = some f ∧ (P.underlying f.type).map k.desc = some true
  | [], [], _ => ⟨rfl, fun j k h => by simp at h⟩
  | f :: fs, k :: ks, h => by
    simp only [kdB, Bool.and_eq_true, beq_iff_eq] at h
    obtain ⟨h1, h2⟩ := kdB_at h.2
    refine ⟨by simp [h1], fun j k' hj => ?_⟩
    cases j with
    | zero => simp at hj; subst hj; exact ⟨f, rfl, h.1⟩
    | succ j => exact h2 j k' hj
  | [], _ :: _, h => by simp [kdB] at h
  | _ :: _, [], h => by simp [kdB] at h

/-- a slice that reads the structs l -/
def RdS {α : Type} (w : World) (f : α → List Value) (k : Nat) (v : Value) (l : List α) : Prop :=
  ∃ (A : Option Addr) (c : Nat), v = .slice A l.length c ∧ l.length ≤ maxLen ∧ Rd w k (.slice A l.length c) l.length (l.flatMap f)
theorem RdS.mono {α : Type} {w w' : World} {f : α → List Value} {k : Nat} {v : Value} {l : List α} (h : RdS w f k v l) (hU : Upd w w' []) : RdS w' f k v l := by
  obtain ⟨A, c, h1, h2, h3⟩ := h
  exact ⟨A, c, h1, h2, h3.mono hU⟩

theorem open_slice_fields {base : Nat} {spare : Nat → Bool} {t e : TypeId} {fs : Array Field} {fuel : Nat} {cs : List Value} {x : DataW H × List MemPlace} (ht : P.underlying t = some (.slice e)) (he : P.underlying e = some (.struct fs))
    (hone : oneCellFields P fs = true) (hC : P.cellsOf e = fs.size) (h : DataW.trod enc P w base spare held fuel t cs = some x) :
    (cs = [.slice none 0 0] ∧ x = (.nil, [])) ∨
    ∃ (a : Addr) (len cap m : Nat), cs = [.slice (some a) len cap] ∧ len ≤ cap ∧ cap ≤ maxLen ∧ m = (if spare a.block then cap else len) ∧
      ∀ i, i < m → ∀ (j : Nat) (f : Field), fs[j]? = some f → ∃ (v : Value) (y : DataW H × List MemPlace) (n : Nat), w.cell? (a.add (i * fs.size + j)) = some v ∧ DataW.trod enc P w base spare held n f.type [v] = some y := by
  rcases open_slice ht h with h0 | ⟨a, len, cap, m, n, D, Pl, hcs, hb, hl, hm, hmm, hx, hi⟩
  · exact .inl h0
  · refine .inr ⟨a, len, cap, m, hcs, hl, hm, hmm, fun i him => ?_⟩
    obtain ⟨cs', hc, ht'⟩ := hi i him
    rw [hC] at hc
    obtain ⟨ys, n', hn', hy, hlen, hyl, hf⟩ := DataW.trod_struct he ht'
    obtain ⟨_, hcl, hat⟩ := World.cells?_some hc
    intro j f hj
    obtain ⟨ho, hk⟩ := hone_of hone j f hj
    have hjl : j < fs.size := (Array.getElem?_eq_some_iff.1 hj).1
    have hcell := hat j hjl
    have hv : cs'[j]? = some (cs'[j]'(by omega)) := List.getElem?_eq_getElem (by omega)
    have h1 := hf j f hj
    rw [ho, hk] at h1
    have hone' : (cs'.drop j).take 1 = [cs'[j]'(by omega)] := by
      rw [List.drop_eq_getElem_cons (by omega)]
      rfl
    rw [hone'] at h1
    have hys : ys[j]? = some (ys[j]'(by omega)) := List.getElem?_eq_getElem (by omega)
    refine ⟨_, _, n', ?_, h1.trans hys⟩
    rw [← add_add', hcell, hv]

theorem as_list {α : Type} {f : α → List Value} {R : α → Prop} {ok : List Value → Prop} (hα : ∀ row, ok row → ∃ o, row = f o ∧ R o) : ∀ {rows : List (List Value)}, (∀ row ∈ rows, ok row) → ∃ l : List α, rows = l.map f ∧ ∀ o ∈ l, R o
  | [], _ => ⟨[], rfl, fun o h => by cases h⟩
  | r :: rows, h => by
    obtain ⟨o, h1, h2⟩ := hα r (h r (List.mem_cons_self ..))
    obtain ⟨l, h3, h4⟩ := as_list hα (rows := rows) fun row hr => h row (List.mem_cons_of_mem _ hr)
    refine ⟨o :: l, by rw [h1, h3]; rfl, fun x hx => ?_⟩
    rcases List.mem_cons.1 hx with rfl | hx
    · exact h2
    · exact h4 x hx

theorem structs_of_trod {α : Type} {f : α → List Value} {R : α → Prop} {ks : List Kd} (hf : ∀ x, (f x).length = ks.length) (hα : ∀ row, RowOk ks row → ∃ o, row = f o ∧ R o) {t e : TypeId} {fs : Array Field} {fuel : Nat} {v : Value} {x : DataW H × List MemPlace} (ht : P.underlying t = some (.slice e)) (he : P.underlying e = some (.struct fs))
    (hone : oneCellFields P fs = true) (hC : P.cellsOf e = fs.size) (hks : kdB P fs.toList ks = true) (h : DataW.trod enc P w 0 (fun _ => true) held fuel t [v] = some x) :
    ∃ l : List α, RdS w f ks.length v l ∧ ∀ o ∈ l, R o := by
  obtain ⟨hkl, hka⟩ := kdB_at hks
  have hkl : ks.length = fs.size := by simpa using hkl
  rcases open_slice_fields ht he hone hC h with ⟨hcs, _⟩ | ⟨a, len, cap, m, hcs, hl, hm, hmm, hi⟩
  · simp at hcs
    subst hcs
    exact ⟨[], ⟨none, 0, rfl, Nat.zero_le _, Rd.nil_ _ _⟩, fun o h => by cases h⟩
  · simp at hcs
    subst hcs
    simp at hmm
    obtain rfl := hmm
    have key : ∀ i, i < len → ∃ row : List Value, RowOk ks row ∧ ∀ j u, row[j]? = some u → w.cell? (a.add (i * ks.length + j)) = some u := by
      intro i him
      have h1 : ∀ j, j < ks.length → ∃ v : Value, w.cell? (a.add (i * ks.length + j)) = some v ∧ ∀ k, ks[j]? = some k → KdOk k v := by
        intro j hj
        obtain ⟨k, hk⟩ : ∃ k, ks[j]? = some k := ⟨_, List.getElem?_eq_getElem hj⟩
        obtain ⟨f', hf', hd⟩ := hka j k hk
        obtain ⟨v, y, n, hc, ht'⟩ := hi i (by omega) j f' (by rw [← Array.getElem?_toList]; exact hf')
        rw [← hkl] at hc
        refine ⟨v, hc, fun k' hk' => ?_⟩
        rw [hk] at hk'; injection hk' with hk'; subst hk'
        exact kd_of_trod hd ht'
      obtain ⟨V, hV⟩ := Deep.choose_lt h1
      refine ⟨(List.range ks.length).map V, ⟨by simp, fun j k hk => ?_⟩, fun j u hu => ?_⟩
      · have hj : j < ks.length := (List.getElem?_eq_some_iff.1 hk).1
        exact ⟨V j, by simp [hj], (hV j hj).2 k hk⟩
      · obtain ⟨hj, he⟩ := List.getElem?_eq_some_iff.1 hu
        simp at hj he
        subst he
        exact (hV j hj).1
    obtain ⟨F, hF⟩ := Deep.choose_lt key
    obtain ⟨l, hl1, hl2⟩ := as_list hα (rows := (List.range len).map F) (fun row hr => by
      obtain ⟨i, hi, rfl⟩ := List.mem_map.1 hr
      exact (hF i (by simpa using hi)).1)
    have hlen : l.length = len := by
      have := congrArg List.length hl1
      simpa using this.symm
    refine ⟨l, ⟨some a, m, by rw [hlen], by omega, ?_⟩, hl2⟩
    rw [hlen]
    refine ⟨some a, m, rfl, hl, by rw [flat_len f _ hf, hlen], fun j u hu => ⟨a, rfl, ?_⟩⟩
    have hj : j < len * ks.length := by
      have := (List.getElem?_eq_some_iff.1 hu).1
      rw [flat_len f _ hf, hlen] at this; exact this
    have hk0 : 0 < ks.length := by
      rcases Nat.eq_zero_or_pos ks.length with h0 | h0
      · rw [h0] at hj; omega
      · exact h0
    have hq : j / ks.length < len := Nat.div_lt_of_lt_mul (by rw [Nat.mul_comm]; exact hj)
    have hdm : j / ks.length * ks.length + j % ks.length = j := by rw [Nat.mul_comm]; exact Nat.div_add_mod j ks.length
    rw [← hdm]
    refine (hF _ hq).2 _ u ?_
    rw [← hdm, flat_at f _ hf l _ (by omega) _ (Nat.mod_lt _ hk0)] at hu
    have : (l.map f)[j / ks.length]? = some (F (j / ks.length)) := by rw [← hl1]; simp [hq]
    rw [List.getElem?_map, List.getElem?_eq_getElem (by omega)] at this
    simp at this
    rw [← this]; exact hu

/-- the fields of a struct that is handed in by value -/
theorem open_fields {base : Nat} {spare : Nat → Bool} {r : Reach} {b0 : Nat} {t : TypeId} {fs : Array Field} {v : Value} {d : DataW H} {p : List MemPlace} (hs : P.underlying t = some (.struct fs)) (hone : oneCellFields P fs = true) (hC : P.cellsOf t = fs.size)
    (hv : Value.okWide P w r b0 t v) (h : DataW.Trod enc P w base spare held t v d p) : ∃ row : List Value, v = .agg row.toArray ∧ row.length = fs.size ∧ ∀ (j : Nat) (f : Field), fs[j]? = some f → ∃ (u : Value) (y : DataW H × List MemPlace) (n : Nat), row[j]? = some u ∧ DataW.trod enc P w base spare held n f.type [u] = some y := by
  obtain ⟨cs, rfl, hsz⟩ := okWide_struct hs hv
  obtain ⟨l⟩ := cs
  obtain ⟨fuel, hf⟩ := h
  obtain ⟨xs, n, _, hx, _, hlen, hg⟩ := DataW.trod_struct hs hf
  have hl : l.length = fs.size := by rw [← hC]; simpa using hsz
  refine ⟨l, rfl, hl, fun j f hj => ?_⟩
  obtain ⟨ho, hk⟩ := hone_of hone j f hj
  have hjl : j < fs.size := (Array.getElem?_eq_some_iff.1 hj).1
  have h1 := hg j f hj
  have hcl : (Value.agg l.toArray).cells.toList = l := rfl
  rw [ho, hk, hcl] at h1
  have hone' : (l.drop j).take 1 = [l[j]'(by omega)] := by
    rw [List.drop_eq_getElem_cons (by omega)]
    rfl
  rw [hone'] at h1
  have hxs : xs[j]? = some (xs[j]'(by omega)) := List.getElem?_eq_getElem (by omega)
  exact ⟨_, _, n, List.getElem?_eq_getElem (by omega), h1.trans hxs⟩

theorem struct_of_trod {base : Nat} {spare : Nat → Bool} {α : Type} {f : α → List Value} {R : α → Prop} {ks : List Kd} (hα : ∀ row, RowOk ks row → ∃ o, row = f o ∧ R o) {r : Reach} {b0 : Nat} {t : TypeId} {fs : Array Field} {v : Value} {d : DataW H} {p : List MemPlace} (hs : P.underlying t = some (.struct fs)) (hone : oneCellFields P fs = true) (hC : P.cellsOf t = fs.size) (hks : kdB P fs.toList ks = true)
    (hv : Value.okWide P w r b0 t v) (h : DataW.Trod enc P w base spare held t v d p) : ∃ o, v = .agg (f o).toArray ∧ R o := by
  obtain ⟨row, rfl, hl, hi⟩ := open_fields hs hone hC hv h
  obtain ⟨hkl, hka⟩ := kdB_at hks
  have hkl : ks.length = fs.size := by simpa using hkl
  obtain ⟨o, rfl, ho⟩ := hα row ⟨by omega, fun j k hk => by
    obtain ⟨f', hf', hd⟩ := hka j k hk
    obtain ⟨v, y, n, hc, ht'⟩ := hi j f' (by rw [← Array.getElem?_toList]; exact hf')
    exact ⟨v, hc, kd_of_trod hd ht'⟩⟩
  exact ⟨o, rfl, ho⟩
end
end Go.Proofs.YtakifgecgmdjcaaGreat

/- Maps: their operations, on blocks. -/
namespace Go.Proofs.YtakifgecgmdjcaaGreat
open Go Xf Go.RowKit
set_option linter.unusedVariables false
set_option linter.unusedSimpArgs false
set_option linter.unusedSectionVars false

section
variable {P : Program} {w W : World} {K : Value → World → Prop} {κ ν : Type} [DecidableEq κ]

/-- where a key stands, and what stands by it -/
def aFind (l : List (κ × ν)) (k : κ) (i : Nat) : Option (Nat × ν) :=
  match l with
  | [] => none
  | p :: l => if k = p.1 then some (i, p.2) else aFind l k (i + 1)
def aGet (l : List (κ × ν)) (k : κ) : Option ν := (aFind l k 0).map (·.2)
def aSet (l : List (κ × ν)) (k : κ) (v : ν) : List (κ × ν) := match aFind l k 0 with | some (j, _) => l.set j (k, v) | none => l ++ [(k, v)]
def aDel (l : List (κ × ν)) (k : κ) : List (κ × ν) := match aFind l k 0 with | some (j, _) => l.eraseIdx j | none => l
theorem aFind_some {l : List (κ × ν)} {k : κ} : ∀ {i j : Nat} {v : ν}, aFind l k i = some (j, v) → i ≤ j ∧ l[j - i]? = some (k, v) := by
  induction l with
  | nil => intro i j v h; cases h
  | cons p l ih =>
    intro i j v h
    unfold aFind at h
    split at h
    · rename_i he
      injection h with h
      injection h with h1 h2
      subst h1 h2
      exact ⟨Nat.le_refl _, by rw [Nat.sub_self, he]; rfl⟩
    · obtain ⟨h1, h2⟩ := ih h
      refine ⟨by omega, ?_⟩
      rw [show j - i = (j - (i + 1)) + 1 by omega, List.getElem?_cons_succ]
      exact h2
theorem aFind_none {l : List (κ × ν)} {k : κ} : ∀ {i : Nat}, aFind l k i = none ↔ ∀ p ∈ l, p.1 ≠ k := by
  induction l with
  | nil => intro i; simp [aFind]
  | cons p l ih =>
    intro i
    unfold aFind
    split
    · rename_i he
      simp [he]
    · rename_i he
      rw [ih]
      simp only [List.mem_cons, forall_eq_or_imp]
      exact ⟨fun h => ⟨fun hh => he hh.symm, h⟩, fun h => h.2⟩

/-- keys that the model compares at once -/
structure KeyNow (P : Program) (kt : TypeId) (ke : κ → Value) : Prop where
  und : (∃ q, P.underlying kt = some (.int q)) ∨ P.underlying kt = some .string
  same : ∀ a b d, P.underlying kt = some d → Instr.sameNow d (ke a) (ke b) = some (decide (a = b))
/-- keys that a map can have -/
structure KeyOk (P : Program) (kt : TypeId) (ke : κ → Value) : Prop where
  check : ∀ (w : World) (e : Bool) (a : κ), (Instr.checkKey e 10000 kt (ke a)).run P w = .ok () w
  find : ∀ {ν : Type} (ve : ν → Value) (w : World) (k : κ) (es : List MapEntry) (l : List (κ × ν)), es.map (fun e => (e.key, e.val)) = l.map (fun p => (ke p.1, ve p.2)) → (Instr.findKey kt (ke k) es).run P w = .ok ((aFind l k 0).map fun p => (p.1, ve p.2)) w
  bits : ∀ a, Instr.sameBits 10000 (ke a) (ke a) = true
theorem findNow_eq {kt : TypeId} {ke : κ → Value} {ve : ν → Value} {d : TypeDesc} (hk : KeyNow P kt ke) (hd : P.underlying kt = some d) (k : κ) : ∀ (es : List MapEntry) (l : List (κ × ν)) (i : Nat), es.map (fun e => (e.key, e.val)) = l.map (fun p => (ke p.1, ve p.2)) →
    Instr.findNow d (ke k) es i = some ((aFind l k i).map fun p => (p.1, ve p.2))
  | [], [], i, h => rfl
  | [], p :: l, i, h => by simp at h
  | e :: es, [], i, h => by simp at h
  | e :: es, p :: l, i, h => by
    simp only [List.map_cons, List.cons.injEq, Prod.mk.injEq] at h
    obtain ⟨⟨h1, h2⟩, h3⟩ := h
    unfold Instr.findNow aFind
    rw [h1, hk.same _ _ _ hd]
    by_cases he : k = p.1
    · rw [decide_eq_true he, if_pos he, h2]; rfl
    · rw [decide_eq_false he, if_neg he]
      exact findNow_eq hk hd k es l (i + 1) h3
theorem KeyNow.ok {kt : TypeId} {ke : κ → Value} (hk : KeyNow P kt ke) (hb : ∀ a, Instr.sameBits 10000 (ke a) (ke a) = true) : KeyOk P kt ke := by
  refine ⟨fun w e a => ?_, fun ve w k es l h => ?_, hb⟩
  · unfold Instr.checkKey
    rw [Sem.run_bind]
    rcases hk.und with ⟨q, h⟩ | h
    · rw [run_underlying' h]; simp only [Result.andThen_ok]; rfl
    · rw [run_underlying' h]; simp only [Result.andThen_ok]; rfl
  · obtain ⟨d, hd⟩ : ∃ d, P.underlying kt = some d := by
      rcases hk.und with ⟨q, h⟩ | h
      · exact ⟨_, h⟩
      · exact ⟨_, h⟩
    unfold Instr.findKey
    rw [Sem.run_bind, run_underlying' hd]
    simp only [Result.andThen_ok]
    rw [findNow_eq hk hd k es l 0 h]
    rfl
theorem KeyOk.int {kt : TypeId} {q : IntKind} (h : P.underlying kt = some (.int q)) : KeyOk P kt (Value.int q) := by
  refine KeyNow.ok ⟨.inl ⟨q, h⟩, fun a b d hd => ?_⟩ fun a => by simp [Instr.sameBits]
  rw [h] at hd
  injection hd with hd
  subst hd
  simp only [Instr.sameNow, if_true, Option.some.injEq]
  by_cases hab : a = b
  · subst hab; simp
  · simp [hab]
theorem bytes_beq (a b : List UInt8) : ((⟨a.toArray⟩ : ByteArray) == ⟨b.toArray⟩) = decide (a = b) := by
  show (a.toArray == b.toArray) = _
  by_cases h : a = b
  · subst h; simp
  · simp [h]
theorem KeyOk.str {kt : TypeId} (h : P.underlying kt = some .string) : KeyOk P kt (fun l : List UInt8 => Value.string ⟨l.toArray⟩) := by
  refine KeyNow.ok ⟨.inr h, fun a b d hd => ?_⟩ fun a => ?_
  · rw [h] at hd
    injection hd with hd
    subst hd
    simp only [Instr.sameNow, bytes_beq]
  · simp only [Instr.sameBits, bytes_beq, decide_true]
theorem run_checkKey {kt : TypeId} {ke : κ → Value} (hk : KeyOk P kt ke) (e : Bool) (a : κ) : (Instr.checkKey e 10000 kt (ke a)).run P w = .ok () w := hk.check w e a
theorem run_findKey {kt : TypeId} {ke : κ → Value} {ve : ν → Value} (hk : KeyOk P kt ke) (k : κ) (es : List MapEntry) (l : List (κ × ν)) (h : es.map (fun e => (e.key, e.val)) = l.map (fun p => (ke p.1, ve p.2))) :
    (Instr.findKey kt (ke k) es).run P w = .ok ((aFind l k 0).map fun p => (p.1, ve p.2)) w := hk.find ve w k es l h
/-- a block that is a map of these -/
def MapO (ke : κ → Value) (ve : ν → Value) (l : List (κ × ν)) (o : Obj) : Prop :=
  ∃ es clock, o = .map es clock ∧ es.toList.map (fun e => (e.key, e.val)) = l.map (fun p => (ke p.1, ve p.2)) ∧ (es.toList.map (·.born)).Nodup ∧ ∀ e ∈ es.toList, e.born < clock
theorem MapO.nil (ke : κ → Value) (ve : ν → Value) : MapO ke ve [] (.map #[] 0) := ⟨#[], 0, rfl, rfl, List.nodup_nil, fun e he => by simp at he⟩
theorem run_getMap {b : Nat} {es : Array MapEntry} {clock : Nat} (h : w.heap[b]? = some (.map es clock)) : (getObj b).run P w = .ok (.map es clock) w := by simp [getObj, Sem.run, h]

theorem run_zero {et : TypeId} {z : Value} (hz : (P.info? et).bind (·.zero) = some z) : (zeroValue et).run P w = .ok z w := by
  cases hi : P.info? et with
  | none => rw [hi] at hz; cases hz
  | some i =>
    rw [hi] at hz
    have hz' : i.zero = some z := hz
    simp [zeroValue, typeInfo, program, Sem.run, hi, hz']
theorem run_lookup {t kt et : TypeId} {ke : κ → Value} {ve : ν → Value} {z : Value} {b : Nat} {o : Obj} {l : List (κ × ν)} (ht : P.underlying t = some (.map kt et)) (hk : KeyOk P kt ke) (hz : (P.info? et).bind (·.zero) = some z) (hb : w.heap[b]? = some o) (hm : MapO ke ve l o) (k : κ) (ok : Bool) :
    (sLookup t (.map (some b)) (ke k) ok).run P w = .ok (.value (if ok then .tuple #[((aGet l k).map ve).getD z, .bool (aGet l k).isSome] else ((aGet l k).map ve).getD z)) w := by
  obtain ⟨es, clock, rfl, hes, -⟩ := hm
  unfold sLookup Instr.lookup
  rw [run_sV, Sem.run_bind, run_underlying' ht]
  simp only [Result.andThen_ok, Sem.run_bind, run_getMap hb, Sem.run_pure, run_checkKey hk, run_findKey hk k es.toList l hes]
  unfold aGet
  cases hf : aFind l k 0 with
  | none =>
    simp only [Option.map_none, Option.getD_none, Option.isSome_none, Sem.run_bind, run_zero hz, Result.andThen_ok, Sem.run_pure]
  | some p =>
    simp only [Option.map_some, Option.getD_some, Option.isSome_some, Sem.run_bind, Result.andThen_ok, Sem.run_pure]
/-- a map's block is written -/
theorem Owns.putObj {h : List (Nat × Obj)} (hO : Owns w h) (i : Nat) {g : Nat} {o : Obj} (hi : h[i]? = some (g, o)) (o' : Obj) : Owns (Go.ChangeMaps.setBlock w g o') (h.set i (g, o')) := by
  refine hO.put i hi ?_ fun k hk => ?_
  · have := hO.lt (List.mem_of_getElem? hi)
    simp [Go.ChangeMaps.setBlock, this]
  · simp [Go.ChangeMaps.setBlock, Array.getElem?_setIfInBounds, Ne.symm hk]
theorem Upd.setBlock (w : World) (g : Nat) (o : Obj) : Upd w (Go.ChangeMaps.setBlock w g o) [g] := ⟨rfl, rfl, rfl, by simp [Go.ChangeMaps.setBlock], fun k hk hn => by simp [Go.ChangeMaps.setBlock, Array.getElem?_setIfInBounds, Ne.symm (show k ≠ g by simpa using hn)]⟩
theorem run_setMap {b : Nat} {es : Array MapEntry} {clock : Nat} (h : w.heap[b]? = some (.map es clock)) (o' : Obj) : (setObj b o').run P w = .ok () (Go.ChangeMaps.setBlock w b o') := by
  simp [setObj, Sem.run, h, Go.ChangeMaps.setBlock]
theorem MapO.set {ke : κ → Value} {ve : ν → Value} {l : List (κ × ν)} {es : Array MapEntry} {clock j : Nat} {k : κ} {v : ν} (h : es.toList.map (fun e => (e.key, e.val)) = l.map (fun p => (ke p.1, ve p.2))) (hn : (es.toList.map (·.born)).Nodup) (hc : ∀ e ∈ es.toList, e.born < clock) :
    MapO ke ve (l.set j (k, v)) (.map (es.modify j fun e => { e with key := ke k, val := ve v }) clock) := by
  have hlen : es.toList.length = l.length := by have := congrArg List.length h; simpa using this
  refine ⟨_, _, rfl, ?_, ?_, fun e he => ?_⟩
  · apply List.ext_getElem?
    intro i
    have hi := congrArg (fun x => x[i]?) h
    simp only [List.getElem?_map] at hi
    rw [Array.toList_modify, List.getElem?_map, List.getElem?_map, List.getElem?_modify]
    by_cases hij : j = i
    · subst hij
      by_cases hj : j < l.length
      · rw [List.getElem?_set_self hj, List.getElem?_eq_getElem (by omega)]
        simp
      · rw [List.getElem?_eq_none (by omega), List.getElem?_eq_none (by simp; omega)]
        rfl
    · rw [List.getElem?_set_ne hij, ← hi]
      cases es.toList[i]? <;> simp [hij]
  · have : (es.modify j fun e => { e with key := ke k, val := ve v }).toList.map (·.born) = es.toList.map (·.born) := by
      apply List.ext_getElem?
      intro i
      rw [Array.toList_modify, List.getElem?_map, List.getElem?_map, List.getElem?_modify]
      cases es.toList[i]? with
      | none => rfl
      | some e => by_cases hij : j = i <;> simp [hij]
    rw [this]; exact hn
  · rw [Array.toList_modify] at he
    obtain ⟨i, hi, rfl⟩ := List.mem_iff_getElem.1 he
    have hi' : i < es.toList.length := by simpa using hi
    have := hc _ (List.getElem_mem hi')
    rw [List.getElem_modify]
    split <;> simpa using this
theorem st_mapUpdate {t kt et : TypeId} {ke : κ → Value} {ve : ν → Value} {b : Nat} {o : Obj} {l : List (κ × ν)} {h : List (Nat × Obj)} {ks : List Nat} (ht : P.underlying t = some (.map kt et)) (hk : KeyOk P kt ke) (hU : Upd W w ks) (hO : Owns w h) (i : Nat) (hi : h[i]? = some (b, o)) (hm : MapO ke ve l o) (hb : b ∈ ks ∨ W.heap.size ≤ b) (k : κ) (v : ν)
    (hK : ∀ w' o', MapO ke ve (aSet l k v) o' → Upd W w' ks → Owns w' (h.set i (b, o')) → K undef w') : (std P).step (sMapUpdate t (.map (some b)) (ke k) (ve v)) w K := by
  obtain ⟨es, clock, rfl, hes, hn, hc⟩ := hm
  have hbl := hO.at_ i hi
  have hrun : ∀ o', (Instr.mapUpdate t (.map (some b)) (ke k) (ve v)).run P w = .ok () (Go.ChangeMaps.setBlock w b o') → (sMapUpdate t (.map (some b)) (ke k) (ve v)).run P w = .ok .skip (Go.ChangeMaps.setBlock w b o') := fun o' h => by
    unfold sMapUpdate sU
    rw [Sem.run_bind, h]
    rfl
  have fin : ∀ o', MapO ke ve (aSet l k v) o' → (Instr.mapUpdate t (.map (some b)) (ke k) (ve v)).run P w = .ok () (Go.ChangeMaps.setBlock w b o') → (std P).step (sMapUpdate t (.map (some b)) (ke k) (ve v)) w K := fun o' hm' h => by
    rw [step_skip (hrun o' h)]
    exact hK _ o' hm' (hU.then_ (Upd.setBlock w b o') fun x hx => by simp at hx; subst hx; exact hb) (hO.putObj i hi o')
  cases hf : aFind l k 0 with
  | none =>
    refine fin (.map (es.push { key := ke k, val := ve v, born := clock }) (clock + 1)) ?_ ?_
    · unfold aSet
      rw [hf]
      refine ⟨_, _, rfl, by simp [hes], ?_, fun e he => ?_⟩
      · rw [Array.toList_push, List.map_append, List.nodup_append]
        refine ⟨hn, by simp, fun a ha c hc' => ?_⟩
        obtain ⟨e, he, rfl⟩ := List.mem_map.1 ha
        simp at hc'
        have := hc e he
        omega
      · rw [Array.toList_push] at he
        rcases List.mem_append.1 he with he | he
        · have := hc e he; omega
        · simp at he; subst he; simp
    · unfold Instr.mapUpdate
      rw [Sem.run_bind, run_underlying' ht]
      simp only [Result.andThen_ok, Sem.run_bind, run_getMap hbl, run_checkKey hk, run_findKey hk k es.toList l hes, hf, Option.map_none, run_setMap hbl]
  | some p =>
    obtain ⟨j, v0⟩ := p
    obtain ⟨-, hj⟩ := aFind_some hf
    rw [Nat.sub_zero] at hj
    refine fin (.map (es.modify j fun e => { e with key := ke k, val := ve v }) clock) ?_ ?_
    · unfold aSet
      rw [hf]
      exact MapO.set hes hn hc
    · have hlen : es.toList.length = l.length := by have := congrArg List.length hes; simpa using this
      have hjl : j < l.length := (List.getElem?_eq_some_iff.1 hj).1
      have hkey : (es[j]?).map (·.key) = some (ke k) := by
        have h1 := congrArg (fun x => x[j]?) hes
        simp only [List.getElem?_map, hj, Option.map_some] at h1
        rw [← Array.getElem?_toList]
        cases he : es.toList[j]? with
        | none => rw [he] at h1; cases h1
        | some e => rw [he] at h1; simp at h1; simp [h1.1]
      unfold Instr.mapUpdate
      rw [Sem.run_bind, run_underlying' ht]
      simp only [Result.andThen_ok, Sem.run_bind, run_getMap hbl, run_checkKey hk, run_findKey hk k es.toList l hes, hf, Option.map_some, hkey, Option.getD_some]
      unfold Instr.keyThatStays
      rw [if_pos (hk.bits k)]
      simp only [Sem.run_pure, Result.andThen_ok, run_setMap hbl]
theorem map_eraseIdx' {α β : Type} (f : α → β) (l : List α) (j : Nat) : (l.eraseIdx j).map f = (l.map f).eraseIdx j := by
  rw [List.eraseIdx_eq_take_drop_succ, List.eraseIdx_eq_take_drop_succ, List.map_append, List.map_take, List.map_drop]
theorem MapO.erase {ke : κ → Value} {ve : ν → Value} {l : List (κ × ν)} {es : Array MapEntry} {clock j : Nat} (h : es.toList.map (fun e => (e.key, e.val)) = l.map (fun p => (ke p.1, ve p.2))) (hn : (es.toList.map (·.born)).Nodup) (hc : ∀ e ∈ es.toList, e.born < clock) :
    MapO ke ve (l.eraseIdx j) (.map (es.eraseIdxIfInBounds j) clock) := by
  have e1 : (es.eraseIdxIfInBounds j).toList = es.toList.eraseIdx j := by simp
  refine ⟨_, _, rfl, ?_, ?_, fun e he => ?_⟩
  · rw [e1, map_eraseIdx', h, map_eraseIdx']
  · rw [e1]
    exact hn.sublist ((List.eraseIdx_sublist _ _).map _)
  · rw [e1] at he
    exact hc e ((List.eraseIdx_sublist _ _).mem he)
theorem st_mapDelete {t kt et ty kt' : TypeId} {cs : List Bool} {ke : κ → Value} {ve : ν → Value} {b : Nat} {o : Obj} {l : List (κ × ν)} {h : List (Nat × Obj)} {ks : List Nat} (ht : P.underlying t = some (.map kt et)) (hk : KeyOk P kt ke) (hU : Upd W w ks) (hO : Owns w h) (i : Nat) (hi : h[i]? = some (b, o)) (hm : MapO ke ve l o) (hb : b ∈ ks ∨ W.heap.size ≤ b) (k : κ)
    (hK : ∀ w' o', MapO ke ve (aDel l k) o' → Upd W w' ks → Owns w' (h.set i (b, o')) → K (.tuple #[]) w') : (std P).step (sBuiltin .delete #[t, kt'] ty cs [.map (some b), ke k]) w K := by
  obtain ⟨es, clock, rfl, hes, hn, hc⟩ := hm
  have hbl := hO.at_ i hi
  have hrun : ∀ o', (Builtin.delete_ #[t, kt'] ty #[.map (some b), ke k]).run P w = .ok (.tuple #[]) (Go.ChangeMaps.setBlock w b o') → (sBuiltin .delete #[t, kt'] ty cs [.map (some b), ke k]).run P w = .ok (.value (.tuple #[])) (Go.ChangeMaps.setBlock w b o') := fun o' h => by
    show (do pure (.value (← Builtin.delete_ #[t, kt'] ty #[.map (some b), ke k])) : Sem Next).run P w = _
    rw [Sem.run_bind, h]; rfl
  have fin : ∀ o', MapO ke ve (aDel l k) o' → (Builtin.delete_ #[t, kt'] ty #[.map (some b), ke k]).run P w = .ok (.tuple #[]) (Go.ChangeMaps.setBlock w b o') → (std P).step (sBuiltin .delete #[t, kt'] ty cs [.map (some b), ke k]) w K := fun o' hm' h => by
    rw [step_run (hrun o' h)]
    exact hK _ o' hm' (hU.then_ (Upd.setBlock w b o') fun x hx => by simp at hx; subst hx; exact hb) (hO.putObj i hi o')
  cases hf : aFind l k 0 with
  | none =>
    refine fin (.map es clock) ?_ ?_
    · unfold aDel
      rw [hf]
      exact ⟨es, clock, rfl, hes, hn, hc⟩
    · unfold Builtin.delete_
      simp only [List.getElem?_toArray, List.getElem?_cons_zero, List.getElem?_cons_succ]
      rw [Sem.run_bind, run_underlying' ht]
      simp only [Result.andThen_ok, Sem.run_bind, run_getMap hbl, run_checkKey hk, run_findKey hk k es.toList l hes, hf, Option.map_none, run_setMap hbl, Sem.run_pure]
  | some p =>
    obtain ⟨j, v0⟩ := p
    refine fin (.map (es.eraseIdxIfInBounds j) clock) ?_ ?_
    · unfold aDel
      rw [hf]
      exact MapO.erase hes hn hc
    · unfold Builtin.delete_
      simp only [List.getElem?_toArray, List.getElem?_cons_zero, List.getElem?_cons_succ]
      rw [Sem.run_bind, run_underlying' ht]
      simp only [Result.andThen_ok, Sem.run_bind, run_getMap hbl, run_checkKey hk, run_findKey hk k es.toList l hes, hf, Option.map_some, run_setMap hbl, Sem.run_pure]
theorem st_makeMap {t : TypeId} {h : List (Nat × Obj)} {ks : List Nat} (hU : Upd W w ks) (hO : Owns w h)
    (hK : ∀ g w', Upd W w' ks → Owns w' ((g, .map #[] 0) :: h) → W.heap.size ≤ g → K (.map (some g)) w') : (std P).step (sMakeMap t none) w K := by
  have hrun : (sMakeMap t none).run P w = .ok (.value (.map (some w.heap.size))) (w.alloc (.map #[] 0)) := by
    unfold sMakeMap
    rw [run_sV]
    simp [Instr.makeMap, newObj, Sem.run_bind, Sem.run]
  rw [step_run hrun]
  exact hK _ _ (hU.trans (Upd.alloc w _ ks)) (hO.alloc _) hU.size

/-- an iterator that has these left -/
def IterH (ke : κ → Value) (ve : ν → Value) (m : Nat) (o : Obj) (left : List (κ × ν)) (ob : Obj) : Prop :=
  ∃ es clock since seen c0, o = .map es clock ∧ ob = .mapIter (some m) since seen c0 ∧ since ≤ c0 ∧ since ≤ clock ∧ (∀ e ∈ es.toList, e.born < since) ∧ (es.toList.map (·.born)).Nodup ∧ (es.toList.filter fun e => !seen.contains e.born).map (fun e => (e.key, e.val)) = left.map (fun p => (ke p.1, ve p.2))
theorem st_range {t kt et : TypeId} {ke : κ → Value} {ve : ν → Value} {b : Nat} {o : Obj} {l : List (κ × ν)} {h : List (Nat × Obj)} {ks : List Nat} (ht : P.underlying t = some (.map kt et)) (hU : Upd W w ks) (hO : Owns w h) (i : Nat) (hi : h[i]? = some (b, o)) (hm : MapO ke ve l o)
    (hK : ∀ g w' ob, IterH ke ve b o l ob → Upd W w' ks → Owns w' ((g, ob) :: h) → W.heap.size ≤ g → K (.pointer (some ⟨g, 0, none⟩)) w') : (std P).step (sRange t (.map (some b))) w K := by
  obtain ⟨es, clock, rfl, hes, hn, hc⟩ := hm
  have hbl := hO.at_ i hi
  have hrun : (sRange t (.map (some b))).run P w = .ok (.value (.pointer (some ⟨w.heap.size, 0, none⟩))) (w.alloc (.mapIter (some b) clock #[] clock)) := by
    unfold sRange Instr.range
    rw [run_sV, Sem.run_bind, run_underlying' ht]
    simp only [Result.andThen_ok, Sem.run_bind, run_getMap hbl, Sem.run_pure]
    simp [newObj, Sem.run_bind, Sem.run]
  rw [step_run hrun]
  refine hK _ _ _ ⟨es, clock, clock, #[], clock, rfl, rfl, Nat.le_refl _, Nat.le_refl _, hc, hn, ?_⟩ (hU.trans (Upd.alloc w _ ks)) (hO.alloc _) hU.size
  have : (es.toList.filter fun e => !(#[] : Array Nat).contains e.born) = es.toList := List.filter_eq_self.2 fun e he => by simp
  rw [this]; exact hes
theorem filter_push {es a b : List MapEntry} {seen : Array Nat} {e : MapEntry} (hn : (es.map (·.born)).Nodup) (hab : (es.filter fun x => !seen.contains x.born) = a ++ e :: b) :
    (es.filter fun x => !(seen.push e.born).contains x.born) = a ++ b := by
  have h1 : (es.filter fun x => !(seen.push e.born).contains x.born) = (es.filter fun x => !seen.contains x.born).filter fun x => !(x.born == e.born) := by
    rw [List.filter_filter]
    refine List.filter_congr fun x hx => ?_
    rw [Array.contains_push]
    cases seen.contains x.born <;> cases h : (x.born == e.born) <;> simp_all
  have hs : ((a ++ e :: b).map (·.born)).Nodup := by
    rw [← hab]
    exact hn.sublist (List.filter_sublist.map _)
  rw [h1, hab, List.filter_append, List.filter_cons_of_neg (by simp)]
  rw [List.map_append, List.map_cons, List.nodup_append, List.nodup_cons] at hs
  congr 1
  · refine List.filter_eq_self.2 fun x hx => ?_
    have := hs.2.2 x.born (List.mem_map_of_mem hx) e.born (List.mem_cons_self ..)
    simpa using this
  · refine List.filter_eq_self.2 fun x hx => ?_
    have : x.born ≠ e.born := fun h => hs.2.1.1 (h ▸ List.mem_map_of_mem hx)
    simpa using this
theorem st_next {ty : TypeId} {ke : κ → Value} {ve : ν → Value} {r m : Nat} {o ob : Obj} {left : List (κ × ν)} {h : List (Nat × Obj)} {ks : List Nat} (hU : Upd W w ks) (hO : Owns w h) (i : Nat) (hi : h[i]? = some (r, ob)) (j : Nat) (hj : h[j]? = some (m, o)) (hI : IterH ke ve m o left ob) (hr : r ∈ ks ∨ W.heap.size ≤ r)
    (h0 : left = [] → K (.tuple #[.bool false]) w)
    (h1 : ∀ (p : κ × ν) (left' : List (κ × ν)) (w' : World) (ob' : Obj), (p :: left').Perm left → IterH ke ve m o left' ob' → (∀ w'' : World, w''.heap[r]? = some ob' → w''.heap[m]? = some o → (sEntry (.pointer (some ⟨r, 0, none⟩))).run P w'' = .ok (.value (.tuple #[ke p.1, ve p.2])) w'') → Upd W w' ks → Owns w' (h.set i (r, ob')) → K (.tuple #[.bool true, ke p.1, ve p.2]) w') : (std P).step (sNext (.pointer (some ⟨r, 0, none⟩)) false ty) w K := by
  obtain ⟨es, clock, since, seen, c0, rfl, rfl, hsc, hcl, hold, hn, hl⟩ := hI
  have hrb := hO.at_ i hi
  have hmb := hO.at_ j hj
  have hlo : (leftOf es seen).toList = es.toList.filter fun e => !seen.contains e.born := by simp [leftOf]
  rcases run_next_at (P := P) w ty r m since c0 seen es clock hrb hmb hold hsc with ⟨hz, hrun⟩ | ⟨e, he, w1, hw1, hrun⟩
  · have : left = [] := by
      have h2 := congrArg List.length hl
      rw [← hlo] at h2
      simp only [List.length_map] at h2
      rw [Array.length_toList, hz] at h2
      exact List.eq_nil_of_length_eq_zero h2.symm
    have hs : (sNext (.pointer (some ⟨r, 0, none⟩)) false ty).run P w = .ok (.value (.tuple #[.bool false])) w := by
      unfold sNext
      rw [run_sV, hrun]; rfl
    rw [step_run hs]
    exact h0 this
  · rw [hlo] at he
    -- the pair that comes out
    obtain ⟨a, b, hab⟩ : ∃ a b, (es.toList.filter fun x => !seen.contains x.born) = a ++ e :: b := List.append_of_mem he
    rw [hab, List.map_append, List.map_cons] at hl
    obtain ⟨la, lp, rfl, hla, hlp⟩ := List.map_eq_append_iff.1 hl.symm
    obtain ⟨p, lb, rfl, hpe, hlb⟩ := List.map_eq_cons_iff.1 hlp
    simp only [Prod.mk.injEq] at hpe
    have hs : (sNext (.pointer (some ⟨r, 0, none⟩)) false ty).run P w = .ok (.value (.tuple #[.bool true, ke p.1, ve p.2])) (Go.ChangeMaps.setBlock w1 r (.mapIter (some m) since (seen.push e.born) clock)) := by
      unfold sNext
      rw [run_sV, hrun, hpe.1, hpe.2]; rfl
    rw [step_run hs]
    have hU1 : Upd w w1 [] := by rcases hw1 with rfl | rfl; exact Upd.refl _ []; exact Upd.drew w []
    have hO1 := hO.ext hU1
    refine h1 p (la ++ lb) _ _ List.perm_middle.symm ⟨es, clock, since, seen.push e.born, clock, rfl, rfl, hcl, hcl, hold, hn, ?_⟩ (fun w'' q1 q2 => ?_) ((hU.then_ hU1 fun x hx => by cases hx).then_ (Upd.setBlock w1 r _) fun x hx => ?_) (hO1.putObj i hi _)
    · rw [filter_push hn hab, List.map_append, List.map_append, hla, hlb]
    · unfold sEntry
      rw [run_sV, run_entry_at w'' r m since seen es clock e q1 q2 (List.mem_filter.1 he).1 hn, hpe.1, hpe.2]; rfl
    · simp at hx
      subst hx
      exact hr.elim .inl fun h => .inr h
theorem st_mapLen {t ty : TypeId} {cs : List Bool} {kt et : TypeId} {ke : κ → Value} {ve : ν → Value} {b : Nat} {o : Obj} {l : List (κ × ν)} (ht : P.underlying t = some (.map kt et)) (hb : w.heap[b]? = some o) (hm : MapO ke ve l o) : (std P).step (sBuiltin .len #[t] ty cs [.map (some b)]) w K = K (.int .i64 (l.length : Nat)) w := by
  obtain ⟨es, clock, rfl, hes, -⟩ := hm
  have hl : es.size = l.length := by have := congrArg List.length hes; simpa using this
  have hrun : (sBuiltin .len #[t] ty cs [.map (some b)]).run P w = .ok (.value (.int .i64 (l.length : Nat))) w := by
    show (do pure (.value (← Builtin.len_ #[t] ty #[.map (some b)])) : Sem Next).run P w = _
    have h1 : (Builtin.len_ #[t] ty #[.map (some b)]).run P w = .ok (.int .i64 (l.length : Nat)) w := by
      simp only [Builtin.len_, Builtin.lenOf]
      simp [Sem.run_bind, run_underlying' ht, run_getMap hb, goInt, hl]
    rw [Sem.run_bind, h1]; rfl
  rw [step_run hrun]
end

section
open Classical in
theorem least_ofK {P : Nat → Prop} : ∀ n, P n → ∃ k, P k ∧ ∀ j, P j → k ≤ j := by
  intro n
  induction n using Nat.strongRecOn with
  | ind n ih =>
    intro hn
    by_cases h : ∃ m, m < n ∧ P m
    · obtain ⟨m, hm, hp⟩ := h
      exact ih m hm hp
    · exact ⟨n, hn, fun j hj => by
        rcases Nat.lt_or_ge j n with hlt | hge
        · exact absurd ⟨j, hlt, hj⟩ h
        · exact hge⟩
open Classical in
noncomputable def minK (I : Nat → List Value → World → Prop) (vs : List Value) (w : World) : Nat := if h : ∃ k, I k vs w then Classical.choose (least_ofK (P := fun k => I k vs w) _ (Classical.choose_spec h)) else 0
theorem minK_spec {I : Nat → List Value → World → Prop} {vs : List Value} {w : World} (h : ∃ k, I k vs w) : I (minK I vs w) vs w ∧ ∀ j, I j vs w → minK I vs w ≤ j := by
  unfold minK
  rw [dif_pos h]
  exact Classical.choose_spec (least_ofK (P := fun k => I k vs w) _ (Classical.choose_spec h))
theorem minK_go {I : Nat → List Value → World → Prop} {vs : List Value} {w : World} {k k' : Nat} (h : I k' vs w) (hlt : k' < k) : (∃ k, I k vs w) ∧ minK I vs w < k := ⟨⟨k', h⟩, Nat.lt_of_le_of_lt ((minK_spec ⟨k', h⟩).2 k' h) hlt⟩
end
end Go.Proofs.YtakifgecgmdjcaaGreat

/- Locks: one name in memory; goes, would, first. -/
namespace Go.Proofs.YtakifgecgmdjcaaGreat
open Go Xf Go.RowKit
set_option linter.unusedVariables false
set_option linter.unusedSimpArgs false
set_option maxRecDepth 100000

/-- one name: who has it, and who waits -/
structure Nm where
  held : List (Int × Int)
  turns : List Int
  row : List Int
abbrev keyI : Int → Value := Value.int .i64
theorem keyI_ok : KeyOk Tryz.prog 3 keyI := KeyOk.int u3
theorem uHeld : Tryz.prog.underlying 93 = some (.map 3 29) := by kernel_rfl
theorem px_ext1 {P : Program} {a : Value} {w : World} {K : Value → World → Prop} : (std P).step (sExtract (.tuple #[a]) 0) w K = K a w := step_run rfl
def nmO (bh : Nat) (vt vr : Value) : Obj := .cells #[.map (some bh), vt, vr] 95 (0, 0)
def NmH (n : Nm) (g : Nat) (h : List (Nat × Obj)) : Prop :=
  ∃ bh oh vt vr ht hr, h = (g, nmO bh vt vr) :: (bh, oh) :: (ht ++ hr) ∧ MapO keyI keyI n.held oh ∧ RowH 3 1 vt n.turns.length (intsV .i64 n.turns) ht ∧ RowH 3 1 vr n.row.length (intsV .i64 n.row) hr
def goesB (n : Nm) (txn m : Int) : Bool := n.held.all fun p => decide (p.1 = txn) || bes (sureN p.2) (sureN m)
def wouldN (n : Nm) (txn m : Int) : Int := (joi (sureN ((aGet n.held txn).getD 0)) (sureN m) : Nat)
def firstN (n : Nm) : Int := match n.turns with | x :: _ => x | [] => match n.row with | x :: _ => x | [] => 0
theorem RowH.sl' {e : TypeId} {sz : Nat} {v : Value} {n : Nat} {xs : List Value} {h : List (Nat × Obj)} (hr : RowH e sz v n xs h) : ∃ A c, v = .slice A n c := by
  rcases hr.2 with ⟨h1, h2, _⟩ | ⟨g, cap, cs, h1, _, h3, _⟩
  · exact ⟨none, 0, by rw [h1, h2]⟩
  · exact ⟨_, cap, h1⟩
theorem NmH.look {n : Nm} {g : Nat} {h G : List (Nat × Obj)} (hn : NmH n g h) (hG : ∀ p ∈ h, p ∈ G) {w : World} (hO : Owns w G) : ∃ bh oh vt vr, w.heap[g]? = some (nmO bh vt vr) ∧ (bh, oh) ∈ G ∧ MapO keyI keyI n.held oh ∧
    Rd w 1 vt n.turns.length (intsV .i64 n.turns) ∧ Rd w 1 vr n.row.length (intsV .i64 n.row) ∧ w.cell? ⟨g, 0, none⟩ = some (.map (some bh)) ∧ w.cell? ⟨g, 1, none⟩ = some vt ∧ w.cell? ⟨g, 2, none⟩ = some vr := by
  obtain ⟨bh, oh, vt, vr, ht, hr, rfl, h1, h2, h3⟩ := hn
  have hg := hO.2 _ (hG _ (List.mem_cons_self ..))
  have st : ∀ (hx : List (Nat × Obj)) (v : Value) (k : Nat) (xs : List Value), RowH 3 1 v k xs hx → (∀ p ∈ hx, p ∈ G) → Rd w 1 v k xs := fun hx v k xs hrow hm =>
    hrow.rd (F := []) ⟨by rw [List.append_nil]; rcases hrow.2 with ⟨_, _, rfl⟩ | ⟨g', _, _, _, rfl, _⟩ <;> simp, fun p hp => hO.2 p (hm p (by simpa using hp))⟩
  exact ⟨bh, oh, vt, vr, hg, hG _ (by simp), h1, st ht _ _ _ h2 (fun p hp => hG p (by simp [hp])), st hr _ _ _ h3 (fun p hp => hG p (by simp [hp])), (cell_at hg).trans rfl, (cell_at hg).trans rfl, (cell_at hg).trans rfl⟩

section
variable {w W : World} {n : Nm} {g : Nat} {h G : List (Nat × Obj)}
theorem would_spec (hn : NmH n g h) (hG : ∀ p ∈ h, p ∈ G) (hO : Owns w G) (txn m : Int) :
    CallsR Tryz.prog 51 #[.pointer (some ⟨g, 0, none⟩), .int .i64 txn, .int .i64 m] w fun u w' => u = .int .i64 (wouldN n txn m) ∧ Upd w w' [] := by
  obtain ⟨bh, oh, vt, vr, hg, hm, hmap, -, -, c0, c1, c2⟩ := hn.look hG hO
  apply lock_name_would_sound
  unfold lock_name_would_x
  simp (disch := first | assumption | omega) only [PX, LX, add_mk, Nat.reduceAdd]
  rw [step_run (run_lookup uHeld keyI_ok ze29 (hO.2 _ hm) hmap txn false)]
  simp only [Bool.false_eq_true, if_false]
  have hv : ((aGet n.held txn).map keyI).getD (.int .i64 0) = .int .i64 ((aGet n.held txn).getD 0) := by cases aGet n.held txn <;> rfl
  rw [hv]
  refine st_call (Join_spec w _ m) ?_
  rintro _ w1 ⟨rfl, hU⟩
  exact ⟨rfl, hU⟩
theorem first_spec (hn : NmH n g h) (hG : ∀ p ∈ h, p ∈ G) (hO : Owns w G) :
    CallsR Tryz.prog 95 #[.pointer (some ⟨g, 0, none⟩)] w fun u w' => u = .int .i64 (firstN n) ∧ w' = w := by
  obtain ⟨bh, oh, vt, vr, hg, hm, hmap, r1, r2, c0, c1, c2⟩ := hn.look hG hO
  obtain ⟨A1, n1, rfl, -, -, hx1⟩ := r1
  obtain ⟨A2, n2, rfl, -, -, hx2⟩ := r2
  apply lock_name_first_sound
  unfold lock_name_first_x
  simp (disch := first | assumption | omega) only [PX, LX, BX, add_mk, Nat.reduceAdd]
  refine ⟨fun h0 => ?_, fun h0 => ⟨fun h1 => ?_, fun h1 => ?_⟩⟩
  · obtain ⟨x, l, hx⟩ := List.exists_cons_of_ne_nil (show n.turns ≠ [] by intro hh; rw [hh] at h0; simp at h0)
    obtain ⟨a, rfl, ha⟩ := hx1 0 (.int .i64 x) (by rw [hx]; rfl)
    have h00 : 0 < n.turns.length := by omega
    rw [step_run (run_idxS (i := 0) u44 sz3 (by omega) (by omega))]
    simp (disch := first | assumption | omega) only [Int.toNat_zero, Nat.zero_mul, LX]
    exact ⟨by unfold firstN; rw [hx], trivial⟩
  · obtain ⟨x, l, hx⟩ := List.exists_cons_of_ne_nil (show n.row ≠ [] by intro hh; rw [hh] at h1; simp at h1)
    obtain ⟨a, rfl, ha⟩ := hx2 0 (.int .i64 x) (by rw [hx]; rfl)
    rw [step_run (run_idxS (i := 0) u44 sz3 (by omega) (by omega))]
    simp (disch := first | assumption | omega) only [Int.toNat_zero, Nat.zero_mul, LX]
    have ht : n.turns = [] := List.eq_nil_of_length_eq_zero (by omega)
    exact ⟨by unfold firstN; rw [ht, hx], trivial⟩
  · have ht : n.turns = [] := List.eq_nil_of_length_eq_zero (by omega)
    have hr : n.row = [] := List.eq_nil_of_length_eq_zero (by omega)
    exact ⟨by unfold firstN; rw [ht, hr], trivial⟩
theorem goes_spec (hn : NmH n g h) (hG : ∀ p ∈ h, p ∈ G) (hO : Owns w G) (txn m : Int) :
    CallsR Tryz.prog 52 #[.pointer (some ⟨g, 0, none⟩), .int .i64 txn, .int .i64 m] w fun u w' => u = .bool (goesB n txn m) ∧ Upd w w' [] := by
  obtain ⟨bh, oh, vt, vr, hg, hm, hmap, -, -, c0, c1, c2⟩ := hn.look hG hO
  apply lock_name_goes_sound
  unfold lock_name_goes_x lock_name_goes_k1
  simp (disch := first | assumption | omega) only [PX, LX, add_mk, Nat.reduceAdd]
  obtain ⟨j0, hj0⟩ := List.getElem?_of_mem hm
  refine st_range uHeld (Upd.refl w []) hO j0 hj0 hmap ?_
  intro r w1 ob hI hU1 hO1 hr
  let I : Nat → List Value → World → Prop := fun k vs w' => ∃ left ob, k = left.length ∧ IterH keyI keyI bh oh left ob ∧ Owns w' ((r, ob) :: G) ∧ Upd w w' [] ∧ goesB n txn m = left.all fun p => decide (p.1 = txn) || bes (sureN p.2) (sureN m)
  refine st_loop (fun vs w' => ∃ k, I k vs w') (minK I) ⟨_, _, ob, rfl, hI, hO1, hU1, rfl⟩ ?_
  rintro dv vs w2 - hex
  obtain ⟨⟨left, ob2, hk, hI2, hO2, hU2, hgo⟩, -⟩ := minK_spec hex
  generalize minK I vs w2 = k at hk
  refine st_next hU2 hO2 0 rfl (j0 + 1) (by rw [List.getElem?_cons_succ]; exact hj0) hI2 (.inr hr) ?_ ?_
  · rintro rfl
    rw [px_ext1]
    simp only [BX]
    exact ⟨by rw [hgo]; rfl, hU2⟩
  · intro p left' w3 ob3 hperm hI3 hent hU3 hO3
    have hO3 : Owns w3 ((r, ob3) :: G) := hO3
    have hgo3 : goesB n txn m = ((decide (p.1 = txn) || bes (sureN p.2) (sureN m)) && left'.all fun p => decide (p.1 = txn) || bes (sureN p.2) (sureN m)) := by
      rw [hgo, ← hperm.all_eq]; rfl
    have hlen := hperm.length_eq
    simp only [List.length_cons] at hlen
    simp only [PX, BX]
    rw [step_run (hent w3 (hO3.at_ 0 rfl) (hO3.2 _ (List.mem_cons_of_mem _ hm)))]
    simp only [PX, BX]
    refine ⟨fun hne => ?_, fun he => ?_⟩
    · refine st_call (Beside_spec w3 p.2 m) ?_
      rintro _ w4 ⟨rfl, hU4⟩
      simp only [PX, BX]
      rw [bool_var]
      refine ⟨fun hb => ?_, fun hb => ?_⟩
      · refine minK_go (I := I) ⟨left', ob3, rfl, hI3, hO3.ext hU4, hU3.trans hU4, ?_⟩ (by omega)
        rw [hgo3, hb, Bool.or_true, Bool.true_and]
      · refine ⟨?_, hU3.trans hU4⟩
        rw [hgo3, hb, decide_eq_false hne]; rfl
    · refine minK_go (I := I) ⟨left', ob3, rfl, hI3, hO3, hU3, ?_⟩ (by omega)
      rw [hgo3, decide_eq_true (show p.1 = txn from Decidable.not_not.1 he), Bool.true_or, Bool.true_and]
end
end Go.Proofs.YtakifgecgmdjcaaGreat

/- Locks: leave. -/
namespace Go.Proofs.YtakifgecgmdjcaaGreat
open Go Xf Go.RowKit
set_option linter.unusedVariables false
set_option linter.unusedSimpArgs false
set_option maxRecDepth 100000

theorem step_enter {P : Program} {s : Sem Next} {f : FuncId} {args : Array Value} {w w' : World} {K : Value → World → Prop} (h : s.run P w = .ok (.enter f args) w') : (std P).step s w K = CallsR P f args w' K := by
  show StepX P s w K = _
  unfold StepX
  rw [h]
def sameV (b : Value) : Value := .func (.func 93) #[] #[b]
theorem mk_same (b : Value) (w : World) : (sMakeFunc (.func 93) [] [b]).run Tryz.prog w = .ok (.value (sameV b)) w := by kernel_rfl
theorem call_same (b x : Value) (w : World) : (sCallV (sameV b) [x]).run Tryz.prog w = .ok (.enter 93 #[x, b]) w := by kernel_rfl
theorem same_spec {w : World} {g : Nat} {txn : Int} (hc : w.cell? ⟨g, 0, none⟩ = some (.int .i64 txn)) (x : Int) : CallsR Tryz.prog 93 #[.int .i64 x, .pointer (some ⟨g, 0, none⟩)] w fun u w' => u = .bool (decide (x = txn)) ∧ w' = w := by
  apply lock_name_leave_1_sound
  unfold lock_name_leave_1_x
  simp (disch := first | assumption | omega) only [PX, LX]
  exact ⟨trivial, trivial⟩
theorem st_same_call {w : World} {g : Nat} {txn x : Int} {K : Value → World → Prop} (hc : w.cell? ⟨g, 0, none⟩ = some (.int .i64 txn)) (hk : K (.bool (decide (x = txn))) w) : (std Tryz.prog).step (sCallV (sameV (.pointer (some ⟨g, 0, none⟩))) [.int .i64 x]) w K := by
  rw [step_enter (call_same _ _ _)]
  exact CallsR.mono (same_spec hc x) fun u w' ⟨h1, h2⟩ => by subst h1 h2; exact hk
/-- where one stands first; -1 -/
def idxN (l : List Int) (x : Int) : Int := match l.findIdx? (fun y => decide (y = x)) with | some i => i | none => -1
theorem IndexFunc_spec {w : World} {v : Value} {l : List Int} {g : Nat} {txn : Int} (hr : Rd w 1 v l.length (intsV .i64 l)) (hl : l.length ≤ 1000000) (hc : w.cell? ⟨g, 0, none⟩ = some (.int .i64 txn)) :
    CallsR Tryz.prog 112 #[v, sameV (.pointer (some ⟨g, 0, none⟩))] w fun u w' => u = .int .i64 (idxN l txn) ∧ w' = w := by
  obtain ⟨A, c, rfl, hcc, hlen, hx⟩ := hr
  apply slices_IndexFunc_int_int_sound
  unfold slices_IndexFunc_int_int_x slices_IndexFunc_int_int_k1
  simp only [PX]
  refine st_loop (fun vs w' => ∃ i : Nat, i ≤ l.length ∧ vs.getD 2 undef = .int .i64 i ∧ w' = w ∧ ∀ y ∈ l.take i, y ≠ txn) (fun vs _ => l.length - (intOf (vs.getD 2 undef)).toNat) ⟨0, by omega, rfl, rfl, by simp⟩ ?_
  rintro dv vs w1 - ⟨i, hi, e2, rfl, hno⟩
  simp (disch := omega) only [e2, PX, BX]
  refine ⟨fun hlt => ?_, fun hge => ?_⟩
  · have hi' : i < l.length := by omega
    obtain ⟨a, rfl, ha⟩ := hx i (.int .i64 l[i]) (by simp [intsV, hi'])
    simp (disch := first | assumption | omega) only [PX, LX, Nat.mul_one]
    refine st_same_call hc ?_
    simp (disch := omega) only [PX, BX, w64]
    refine ⟨fun he => ⟨?_, trivial⟩, fun hne => ⟨⟨i + 1, by omega, rfl, trivial, ?_⟩, ?_⟩⟩
    · unfold idxN
      have : l.findIdx? (fun y => decide (y = txn)) = some i := by
        rw [List.findIdx?_eq_some_iff_getElem]
        refine ⟨hi', by simpa using he, fun j hj => ?_⟩
        have := hno l[j] (List.mem_take_iff_getElem.2 ⟨j, by omega, rfl⟩)
        simpa using this
      rw [this]
    · intro y hy
      rw [List.take_succ_eq_append_getElem hi'] at hy
      rcases List.mem_append.1 hy with hy | hy
      · exact hno y hy
      · rw [List.mem_singleton] at hy; subst hy; exact hne
    · simp only [List.getD_cons_succ, List.getD_cons_zero, intOf]; omega
  · obtain rfl : i = l.length := by omega
    rw [List.take_length] at hno
    refine ⟨?_, trivial⟩
    unfold idxN
    have : l.findIdx? (fun y => decide (y = txn)) = none := by
      rw [List.findIdx?_eq_none_iff]
      intro y hy
      simpa using hno y hy
    rw [this]
theorem zeros_eq (m : Nat) : (Builtin.zeroCells (Value.int .i64 0).cells m).toList = List.replicate m (Value.int .i64 0) := by
  apply List.ext_getElem?
  intro i
  rw [show (Value.int .i64 0).cells = #[Value.int .i64 0] from rfl]
  simp only [Builtin.zeroCells, Array.toList_map, List.getElem?_map, List.getElem?_replicate]
  by_cases hi : i < m
  · simp [hi, Nat.mod_one]
  · simp [hi]
theorem st_clear {w W : World} {K : Value → World → Prop} {ty : TypeId} {cs : List Bool} {te : TypeId} {g off m c : Nat} {cur : Array Value} {h : List (Nat × Obj)} {ks : List Nat} (hU : Upd W w ks) (hO : Owns w h) (i : Nat) (hi : h[i]? = some (g, .cells cur te (0, 0))) (hfit : off + m ≤ cur.size) (h0 : 0 < m) (hg : g ∈ ks ∨ W.heap.size ≤ g)
    (hk : ∀ w', Upd W w' ks → Owns w' (h.set i (g, .cells (cur.toList.take off ++ List.replicate m (Value.int .i64 0) ++ cur.toList.drop (off + m)).toArray te (0, 0))) → K (.tuple #[]) w') :
    (std Tryz.prog).step (sBuiltin .clear #[44] ty cs [.slice (some ⟨g, off, none⟩) m c]) w K := by
  obtain ⟨m, rfl⟩ : ∃ m', m = m' + 1 := ⟨m - 1, by omega⟩
  have hb := hO.at_ i hi
  have hst := run_storeCells_at Tryz.prog g off te (List.replicate (m + 1) (Value.int .i64 0)) 0 cur w hb (by simpa using hfit) (fun v hv => by rw [List.eq_of_mem_replicate hv]; rfl)
  have h1 : (Builtin.clear_ #[44] ty #[.slice (some ⟨g, off, none⟩) (m + 1) c]).run Tryz.prog w = .ok (.tuple #[]) (w.setRow g (cur.toList.take off ++ List.replicate (m + 1) (Value.int .i64 0) ++ cur.toList.drop (off + (m + 1))).toArray) := by
    simp only [Builtin.clear_, List.getElem?_toArray, List.getElem?_cons_zero]
    rw [Sem.run_bind, run_underlying' u44]
    simp only [Result.andThen_ok, Sem.run_bind, run_zero ze3]
    rw [zeros_eq, hst]
    simp
  have hrun : (sBuiltin .clear #[44] ty cs [.slice (some ⟨g, off, none⟩) (m + 1) c]).run Tryz.prog w = .ok (.value (.tuple #[])) (w.setRow g (cur.toList.take off ++ List.replicate (m + 1) (Value.int .i64 0) ++ cur.toList.drop (off + (m + 1))).toArray) := by
    show (do pure (.value (← Builtin.clear_ #[44] ty #[.slice (some ⟨g, off, none⟩) (m + 1) c])) : Sem Next).run Tryz.prog w = _
    rw [Sem.run_bind, h1]; rfl
  rw [step_run hrun]
  exact hk _ (hU.then_ (Upd.setRow _ _ _) fun y hy => by simp at hy; subst hy; exact hg) (hO.setRow i hi _)
def outN (l : List Int) (x : Int) : List Int := l.filter fun y => !decide (y = x)
theorem DeleteFunc_spec {w W : World} {ks : List Nat} {F ht : List (Nat × Obj)} {v : Value} {l : List Int} {g : Nat} {txn : Int} (hr : RowH 3 1 v l.length (intsV .i64 l) ht) (hl : l.length ≤ 1000000) (hO : Owns w (ht ++ F)) (hU : Upd W w ks) (hh : ∀ p ∈ ht, p.1 ∈ ks ∨ W.heap.size ≤ p.1) (hb : (g, Obj.cells #[.int .i64 txn] 3 (0, 0)) ∈ F) :
    CallsR Tryz.prog 94 #[v, sameV (.pointer (some ⟨g, 0, none⟩))] w fun u w' => ∃ h', RowH 3 1 u (outN l txn).length (intsV .i64 (outN l txn)) h' ∧ Owns w' (h' ++ F) ∧ Upd W w' ks ∧ ∀ p ∈ h', p.1 ∈ ks ∨ W.heap.size ≤ p.1 := by
  apply slices_DeleteFunc_int_int_sound
  unfold slices_DeleteFunc_int_int_x
  have hbox : ∀ {w' : World} {h' : List (Nat × Obj)}, Owns w' (h' ++ F) → w'.cell? ⟨g, 0, none⟩ = some (.int .i64 txn) := fun ho => (cell_at (ho.2 _ (List.mem_append_right _ hb))).trans rfl
  refine st_call (IndexFunc_spec (hr.rd hO) hl (hbox hO)) ?_
  rintro _ w1 ⟨rfl, rfl⟩
  unfold idxN
  cases hf : l.findIdx? (fun y => decide (y = txn)) with
  | none =>
    simp only [PX, BX]
    refine ⟨fun _ => ?_, fun h => absurd trivial h⟩
    rw [List.findIdx?_eq_none_iff] at hf
    have : outN l txn = l := List.filter_eq_self.2 fun y hy => by have := hf y hy; simpa using this
    rw [this]
    exact ⟨ht, hr, hO, hU, hh⟩
  | some i0 =>
    rw [List.findIdx?_eq_some_iff_getElem] at hf
    obtain ⟨hi0, he0, hlt0⟩ := hf
    simp (disch := omega) only [PX, BX, w64]
    refine ⟨fun h => absurd h (by omega), fun _ => ?_⟩
    obtain ⟨gt, cap, cs0, rfl, rfl, hcap, hmax, hsz0, htk0⟩ : ∃ gt cap cs0, v = .slice (some ⟨gt, 0, none⟩) l.length cap ∧ ht = [(gt, .cells cs0 3 (0, 0))] ∧ l.length ≤ cap ∧ cap ≤ maxLen ∧ cs0.size = cap * 1 ∧ cs0.toList.take (l.length * 1) = intsV .i64 l := by
      rcases hr.2 with ⟨_, h0, _⟩ | ⟨a, b, c, h1, h2, h3, h4, h5, h6⟩
      · omega
      · exact ⟨a, b, c, h1, h2, h3, h4, h5, h6⟩
    rw [Nat.mul_one] at hsz0 htk0
    have hgW := hh _ (List.mem_cons_self ..)
    have hat0 : ∀ k (hk : k < l.length), cs0[k]? = some (.int .i64 l[k]) := fun k hk => by
      have h1 : (cs0.toList.take l.length)[k]? = some (.int .i64 l[k]) := by rw [htk0]; simp [intsV, hk]
      rw [List.getElem?_take, if_pos hk] at h1
      simpa using h1
    have ho0 : outN (l.take i0) txn = l.take i0 := List.filter_eq_self.2 fun y hy => by
      obtain ⟨k, hk, rfl⟩ := List.mem_take_iff_getElem.1 hy
      have := hlt0 k (by omega)
      simpa using this
    have ho1 : outN (l.take (i0 + 1)) txn = l.take i0 := by
      rw [List.take_succ_eq_append_getElem hi0]
      unfold outN at ho0 ⊢
      rw [List.filter_append, ho0]
      have : l[i0] = txn := by simpa using he0
      simp [this]
    refine st_loop (fun vs w' => ∃ (i j : Nat) (cs : Array Value), vs.getD 1 undef = .int .i64 i ∧ vs.getD 2 undef = .int .i64 j ∧ i < j ∧ j ≤ l.length ∧ i = (outN (l.take j) txn).length ∧ cs.size = cap ∧ cs.toList.take i = intsV .i64 (outN (l.take j) txn) ∧ (∀ k (hk : k < l.length), j ≤ k → cs[k]? = some (.int .i64 l[k])) ∧ Owns w' ((gt, .cells cs 3 (0, 0)) :: F) ∧ Upd W w' ks)
      (fun vs _ => l.length - (intOf (vs.getD 2 undef)).toNat) ⟨i0, i0 + 1, cs0, rfl, rfl, by omega, by omega, ?_, hsz0, ?_, fun k hk _ => hat0 k hk, hO, hU⟩ ?_
    · rw [ho1, List.length_take]; omega
    · rw [ho1]
      have := congrArg (List.take i0) htk0
      rw [List.take_take, Nat.min_eq_left (by omega)] at this
      rw [this]; simp [intsV, List.map_take]
    rintro dv vs w2 - ⟨i, j, cs, e1, e2, hij, hjl, hi, hcs, htk, hrest, hO2, hU2⟩
    simp (disch := omega) only [e1, e2, PX, BX]
    refine ⟨fun hlt => ?_, fun hge => ?_⟩
    · have hj' : j < l.length := by omega
      have hcj := hrest j hj' (Nat.le_refl _)
      have hcell : w2.cell? ⟨gt, 0 + j, none⟩ = some (.int .i64 l[j]) := by rw [cell_at (hO2.at_ 0 rfl), Nat.zero_add]; exact hcj
      simp (disch := first | assumption | omega) only [PX, LX, add_mk]
      refine st_same_call (hbox (h' := [_]) hO2) ?_
      simp (disch := omega) only [PX, BX]
      have hsucc : l.take (j + 1) = l.take j ++ [l[j]] := List.take_succ_eq_append_getElem hj'
      refine ⟨fun he => ?_, fun hne => ?_⟩
      · unfold slices_DeleteFunc_int_int_k2
        simp (disch := omega) only [e2, PX, w64]
        have hou : outN (l.take (j + 1)) txn = outN (l.take j) txn := by
          rw [hsucc]; unfold outN; rw [List.filter_append]; simp [he]
        refine ⟨⟨i, j + 1, cs, rfl, rfl, by omega, by omega, by rw [hou]; exact hi, hcs, by rw [hou]; exact htk, fun k hk hjk => hrest k hk (by omega), hO2, hU2⟩, ?_⟩
        simp only [List.getD_cons_succ, List.getD_cons_zero, intOf]; omega
      · have hi' : i < l.length := by omega
        refine st_storeB sz3 rfl hU2 hO2 0 rfl (by rw [hcs]; omega) (.inr (Nat.zero_le _)) hgW ?_
        intro w3 hU3 hO3
        unfold slices_DeleteFunc_int_int_k2
        simp (disch := omega) only [e2, PX, w64]
        have hou : outN (l.take (j + 1)) txn = outN (l.take j) txn ++ [l[j]] := by
          rw [hsucc]; unfold outN; rw [List.filter_append]; simp [hne]
        refine ⟨⟨i + 1, j + 1, cs.setIfInBounds (0 + i) (.int .i64 l[j]), rfl, rfl, by omega, by omega, by rw [hou, List.length_append, List.length_singleton]; omega, by simpa using hcs, ?_, fun k hk hjk => ?_, hO3, hU3⟩, ?_⟩
        · rw [hou]
          have hc2 : i < cs.toList.length := by simp [hcs]; omega
          rw [Nat.zero_add, Array.toList_setIfInBounds, List.take_succ_eq_append_getElem (by simpa using hc2), List.getElem_set_self, List.take_set_of_le (Nat.le_refl _), htk]
          simp [intsV]
        · rw [Nat.zero_add, Array.getElem?_setIfInBounds_ne (by omega)]
          exact hrest k hk (by omega)
        · simp only [List.getD_cons_succ, List.getD_cons_zero, intOf]; omega
    · obtain rfl : j = l.length := by omega
      rw [List.take_length] at hi htk
      unfold slices_DeleteFunc_int_int_k1
      rw [step_run (run_sliceFrom (i := ((i : Nat) : Int)) u44 sz3 (by omega) (by omega) hcap), show ((i : Nat) : Int).toNat = i by omega, if_neg (by omega)]
      simp only [Option.map_some, add_mk]
      refine st_clear hU2 hO2 0 rfl (by rw [hcs]; omega) (by omega) hgW ?_
      intro w3 hU3 hO3
      rw [step_run (run_sliceTo (i := ((i : Nat) : Int)) u44 sz3 (by omega) (by omega)), show ((i : Nat) : Int).toNat = i by omega, if_neg (by omega)]
      refine ⟨_, ⟨?_, .inr ⟨gt, cap, _, ?_, rfl, by omega, hmax, ?_, ?_⟩⟩, hO3, hU3, fun p hp => ?_⟩
      · simp [intsV]
      · rw [← hi]; simp [Addr.add]
      · simp [hcs]; omega
      · rw [← hi]
        simp only [Nat.mul_one, Nat.zero_add]
        simp only [List.append_assoc]
        rw [List.take_append_of_le_length (by simp [hcs]; omega), List.take_take, Nat.min_self]
        exact htk
      · rw [List.mem_singleton] at hp; subst hp; exact hgW
end Go.Proofs.YtakifgecgmdjcaaGreat

/- Locks: leave. -/
namespace Go.Proofs.YtakifgecgmdjcaaGreat
open Go Xf Go.RowKit
set_option linter.unusedVariables false
set_option linter.unusedSimpArgs false
set_option maxRecDepth 100000

def leaveN (n : Nm) (txn : Int) : Nm := { n with turns := outN n.turns txn, row := outN n.row txn }
theorem outN_le (l : List Int) (x : Int) : (outN l x).length ≤ l.length := List.length_filter_le _ _
theorem leave_spec {w W : World} {ks : List Nat} {F h : List (Nat × Obj)} {n : Nm} {g : Nat} (hn : NmH n g h) (hO : Owns w (h ++ F)) (hU : Upd W w ks) (hh : ∀ p ∈ h, p.1 ∈ ks ∨ W.heap.size ≤ p.1) (hl : n.turns.length ≤ 1000000 ∧ n.row.length ≤ 1000000) (txn : Int) :
    CallsR Tryz.prog 69 #[.pointer (some ⟨g, 0, none⟩), .int .i64 txn] w fun u w' => u = .bool (decide ((outN n.turns txn).length + (outN n.row txn).length < n.turns.length + n.row.length)) ∧ Upd W w' ks ∧ ∃ h', NmH (leaveN n txn) g h' ∧ Owns w' (h' ++ F) ∧ ∀ p ∈ h', p.1 ∈ ks ∨ W.heap.size ≤ p.1 := by
  obtain ⟨bh, oh, vt, vr, ht, hr, rfl, hmap, hrt, hrr⟩ := hn
  have hgW := hh _ (List.mem_cons_self ..)
  apply lock_name_leave_sound
  unfold lock_name_leave_x
  refine st_box hU hO ?_
  intro g3 w1 hU1 hO1 hg3
  have hO1 : Owns w1 ((g3, .cells #[.int .i64 txn] 3 (0, 0)) :: (g, nmO bh vt vr) :: (bh, oh) :: (ht ++ hr ++ F)) := hO1
  obtain ⟨A1, n1, rfl⟩ := RowH.sl' hrt
  obtain ⟨A2, n2, rfl⟩ := RowH.sl' hrr
  have hO2 := hO1.ext (Upd.drew w1 [])
  have hU2 := hU1.then_ (Upd.drew w1 []) (fun x hx => by cases hx)
  let S : World → Prop := fun w' => w'.heap[g]? = some (nmO bh (.slice A1 n.turns.length n1) (.slice A2 n.row.length n2))
  have hne : ∃ w', S w' := ⟨_, hO2.at_ 1 rfl⟩
  have c1 : ∀ w', S w' → w'.cell? ⟨g, 1, none⟩ = some (.slice A1 n.turns.length n1) := fun w' hs => (cell_at hs).trans rfl
  have c2 : ∀ w', S w' → w'.cell? ⟨g, 2, none⟩ = some (.slice A2 n.row.length n2) := fun w' hs => (cell_at hs).trans rfl
  refine st_draw S (hO2.at_ 1 rfl) ?_
  simp (disch := first | exact hne | assumption | omega) only [SX, SLX, add_mk, Nat.reduceAdd]
  rw [step_run (mk_same _ _)]
  have d1 := c1 _ (hO2.at_ 1 rfl)
  simp (disch := first | assumption | omega) only [PX, LX, add_mk, Nat.reduceAdd]
  have hP : Owns w1.drew (ht ++ ((g3, .cells #[.int .i64 txn] 3 (0, 0)) :: (g, nmO bh (.slice A1 n.turns.length n1) (.slice A2 n.row.length n2)) :: (bh, oh) :: (hr ++ F))) := hO2.perm (by
    classical
    refine List.perm_iff_count.2 fun y => ?_
    simp only [List.count_cons, List.count_append]
    omega)
  refine st_call (DeleteFunc_spec hrt hl.1 hP hU2 (fun p hp => hh p (by simp [hp])) (List.mem_cons_self ..)) ?_
  rintro u1 w3 ⟨h3, hr3, hO3, hU3, hh3⟩
  have hO3 : Owns w3 ((g, nmO bh (.slice A1 n.turns.length n1) (.slice A2 n.row.length n2)) :: (g3, .cells #[.int .i64 txn] 3 (0, 0)) :: (bh, oh) :: (h3 ++ (hr ++ F))) := hO3.perm (by
    classical
    refine List.perm_iff_count.2 fun y => ?_
    simp only [List.count_cons, List.count_append]
    omega)
  obtain ⟨A3, n3, rfl⟩ := RowH.sl' hr3
  refine st_storeB sz44 rfl hU3 hO3 0 rfl (by simp) (.inr (Nat.zero_le _)) hgW ?_
  intro w4 hU4 hO4
  have hO4 : Owns w4 ((g, nmO bh (.slice A3 (outN n.turns txn).length n3) (.slice A2 n.row.length n2)) :: (g3, .cells #[.int .i64 txn] 3 (0, 0)) :: (bh, oh) :: (h3 ++ (hr ++ F))) := hO4
  have d2 : w4.cell? ⟨g, 2, none⟩ = some (.slice A2 n.row.length n2) := (cell_at (hO4.at_ 0 rfl)).trans rfl
  simp (disch := first | assumption | omega) only [PX, LX, add_mk, Nat.reduceAdd]
  have hP4 : Owns w4 (hr ++ ((g3, .cells #[.int .i64 txn] 3 (0, 0)) :: (g, nmO bh (.slice A3 (outN n.turns txn).length n3) (.slice A2 n.row.length n2)) :: (bh, oh) :: (h3 ++ F))) := hO4.perm (by
    classical
    refine List.perm_iff_count.2 fun y => ?_
    simp only [List.count_cons, List.count_append]
    omega)
  refine st_call (DeleteFunc_spec hrr hl.2 hP4 hU4 (fun p hp => hh p (by simp [hp])) (List.mem_cons_self ..)) ?_
  rintro u2 w5 ⟨h5, hr5, hO5, hU5, hh5⟩
  have hO5 : Owns w5 ((g, nmO bh (.slice A3 (outN n.turns txn).length n3) (.slice A2 n.row.length n2)) :: (g3, .cells #[.int .i64 txn] 3 (0, 0)) :: (bh, oh) :: (h3 ++ (h5 ++ F))) := hO5.perm (by
    classical
    refine List.perm_iff_count.2 fun y => ?_
    simp only [List.count_cons, List.count_append]
    omega)
  obtain ⟨A5, n5, rfl⟩ := RowH.sl' hr5
  refine st_storeB sz44 rfl hU5 hO5 0 rfl (by simp) (.inr (Nat.zero_le _)) hgW ?_
  intro w6 hU6 hO6
  have hO6 : Owns w6 ((g, nmO bh (.slice A3 (outN n.turns txn).length n3) (.slice A5 (outN n.row txn).length n5)) :: (g3, .cells #[.int .i64 txn] 3 (0, 0)) :: (bh, oh) :: (h3 ++ (h5 ++ F))) := hO6
  have hO7 := hO6.ext (Upd.drew w6 [])
  have hU7 := hU6.then_ (Upd.drew w6 []) (fun x hx => by cases hx)
  let S2 : World → Prop := fun w' => w'.heap[g]? = some (nmO bh (.slice A3 (outN n.turns txn).length n3) (.slice A5 (outN n.row txn).length n5))
  have hne2 : ∃ w', S2 w' := ⟨_, hO7.at_ 0 rfl⟩
  have e1 : ∀ w', S2 w' → w'.cell? ⟨g, 1, none⟩ = some (.slice A3 (outN n.turns txn).length n3) := fun w' hs => (cell_at hs).trans rfl
  have e2 : ∀ w', S2 w' → w'.cell? ⟨g, 2, none⟩ = some (.slice A5 (outN n.row txn).length n5) := fun w' hs => (cell_at hs).trans rfl
  have l1 := outN_le n.turns txn
  have l2 := outN_le n.row txn
  refine st_draw S2 (hO7.at_ 0 rfl) ?_
  simp (disch := first | exact hne2 | assumption | omega) only [SX, SLX, add_mk, Nat.reduceAdd, w64]
  refine ⟨?_, hU7, (g, nmO bh (.slice A3 (outN n.turns txn).length n3) (.slice A5 (outN n.row txn).length n5)) :: (bh, oh) :: (h3 ++ h5), ⟨bh, oh, _, _, h3, h5, rfl, hmap, hr3, hr5⟩, ?_, fun p hp => ?_⟩
  · congr 1; rw [decide_eq_decide]; omega
  · have := hO7.sub (.cons_cons _ (.cons _ (List.Sublist.refl _)))
    simpa only [List.cons_append, List.append_assoc] using this
  · rcases List.mem_cons.1 hp with rfl | hp
    · exact hgW
    rcases List.mem_cons.1 hp with rfl | hp
    · exact hh _ (by simp)
    rcases List.mem_append.1 hp with hp | hp
    · exact hh3 p hp
    · exact hh5 p hp
end Go.Proofs.YtakifgecgmdjcaaGreat

/- The layings of the sorted keys. -/
namespace Go.Proofs
open Go.Shelf
def Tryz.keysA_ren : Go.Shelf.Ren := ⟨fun | 7 => 54 | 10 => 76 | n => n, fun | 23 => 64 | 26 => 9 | 3 => 92 | 28 => 112 | 0 => 0 | 27 => 111 | 33 => 135 | 4 => 4 | n => n, fun | n => n⟩
theorem Tryz.keysA : Go.Proofs.SlLaysZ.n7 Tryz.prog Tryz.keysA_ren := {
  mixed := by kernel_rfl
  f7 := ⟨Tryz.f54.name, by decide, Tryz.func54.trans (congrArg some (by kernel_rfl))⟩
  f10 := ⟨Tryz.f76.name, by decide, Tryz.func76.trans (congrArg some (by kernel_rfl))⟩
  t0 := Tryz.underlying0
  a0 := Tryz.isAgg0
  z0 := Tryz.sizeOf0
  v0 := Tryz.zeroValue0
  t4 := Tryz.underlying4
  a4 := Tryz.isAgg4
  z4 := Tryz.sizeOf4
  v4 := Tryz.zeroValue4
  t23 := Tryz.underlying64
  a23 := Tryz.isAgg64
  z23 := Tryz.sizeOf64
  v23 := Tryz.zeroValue64
  t26 := Tryz.underlying9
  a26 := Tryz.isAgg9
  z26 := Tryz.sizeOf9
  v26 := Tryz.zeroValue9
  t27 := Tryz.underlying111
  a27 := Tryz.isAgg111
  z27 := Tryz.sizeOf111
  v27 := Tryz.zeroValue111
  t28 := Tryz.underlying112
  a28 := Tryz.isAgg112
  z28 := Tryz.sizeOf112
  v28 := Tryz.zeroValue112
  t33 := Tryz.underlying135
  a33 := Tryz.isAgg135
  z33 := Tryz.sizeOf135
  v33 := Tryz.zeroValue135 }
def Tryz.sortedA_ren : Go.Shelf.Ren := ⟨fun | 6 => 53 | 8 => 74 | 9 => 75 | 11 => 96 | 13 => 63 | 12 => 97 | 23 => 87 | 24 => 88 | 14 => 113 | 15 => 114 | 16 => 115 | 17 => 116 | 18 => 117 | 19 => 118 | 20 => 119 | 21 => 120 | 22 => 121 | 25 => 127 | 26 => 99 | 27 => 100 | 28 => 128 | 29 => 129 | 30 => 130 | 31 => 132 | n => n, fun | 26 => 9 | 28 => 112 | 24 => 109 | 0 => 0 | 3 => 3 | 37 => 121 | 48 => 148 | 50 => 150 | 4 => 4 | 40 => 142 | 39 => 141 | 45 => 46 | 5 => 5 | 9 => 9 | 51 => 158 | 55 => 162 | 57 => 176 | 58 => 177 | 33 => 135 | n => n, fun | n => n⟩
theorem Tryz.sortedA : Go.Proofs.SlLaysZ.n6 Tryz.prog Tryz.sortedA_ren := {
  mixed := by kernel_rfl
  f6 := ⟨Tryz.f53.name, by decide, Tryz.func53.trans (congrArg some (by kernel_rfl))⟩
  f8 := ⟨Tryz.f74.name, by decide, Tryz.func74.trans (congrArg some (by kernel_rfl))⟩
  f11 := ⟨Tryz.f96.name, by decide, Tryz.func96.trans (congrArg some (by kernel_rfl))⟩
  t0 := Tryz.underlying0
  a0 := Tryz.isAgg0
  z0 := Tryz.sizeOf0
  v0 := Tryz.zeroValue0
  t24 := Tryz.underlying109
  a24 := Tryz.isAgg109
  z24 := Tryz.sizeOf109
  v24 := Tryz.zeroValue109
  t26 := Tryz.underlying9
  a26 := Tryz.isAgg9
  z26 := Tryz.sizeOf9
  v26 := Tryz.zeroValue9
  t28 := Tryz.underlying112
  a28 := Tryz.isAgg112
  z28 := Tryz.sizeOf112
  v28 := Tryz.zeroValue112
  i26 := by kernel_rfl }
def Tryz.sortA_ren : Go.Shelf.Ren := ⟨fun | 6 => 75 | 8 => 63 | 9 => 97 | 19 => 87 | 20 => 88 | 21 => 113 | 22 => 114 | 23 => 115 | 24 => 116 | 25 => 117 | 26 => 118 | 27 => 119 | 28 => 120 | 29 => 121 | 36 => 127 | 31 => 99 | 32 => 100 | 37 => 128 | 38 => 129 | 39 => 130 | 41 => 132 | n => n, fun | 27 => 109 | 29 => 9 | 3 => 3 | 32 => 121 | 26 => 109 | 0 => 0 | 44 => 148 | 46 => 150 | 4 => 4 | 36 => 142 | 35 => 141 | 41 => 46 | 5 => 5 | 9 => 9 | 53 => 158 | 57 => 162 | 63 => 176 | 64 => 177 | n => n, fun | n => n⟩
theorem Tryz.sortA : Go.Proofs.SlLaysM.n6 Tryz.prog Tryz.sortA_ren := {
  mixed := by kernel_rfl
  f6 := ⟨Tryz.f75.name, by decide, Tryz.func75.trans (congrArg some (by kernel_rfl))⟩
  f8 := Tryz.func63.trans (congrArg some (by kernel_rfl))
  f9 := ⟨Tryz.f97.name, by decide, Tryz.func97.trans (congrArg some (by kernel_rfl))⟩
  f19 := Tryz.func87.trans (congrArg some (by kernel_rfl))
  f20 := Tryz.func88.trans (congrArg some (by kernel_rfl))
  f21 := ⟨Tryz.f113.name, by decide, Tryz.func113.trans (congrArg some (by kernel_rfl))⟩
  f22 := ⟨Tryz.f114.name, by decide, Tryz.func114.trans (congrArg some (by kernel_rfl))⟩
  f23 := ⟨Tryz.f115.name, by decide, Tryz.func115.trans (congrArg some (by kernel_rfl))⟩
  f24 := ⟨Tryz.f116.name, by decide, Tryz.func116.trans (congrArg some (by kernel_rfl))⟩
  f25 := ⟨Tryz.f117.name, by decide, Tryz.func117.trans (congrArg some (by kernel_rfl))⟩
  f26 := ⟨Tryz.f118.name, by decide, Tryz.func118.trans (congrArg some (by kernel_rfl))⟩
  f27 := ⟨Tryz.f119.name, by decide, Tryz.func119.trans (congrArg some (by kernel_rfl))⟩
  f28 := ⟨Tryz.f120.name, by decide, Tryz.func120.trans (congrArg some (by kernel_rfl))⟩
  f29 := ⟨Tryz.f121.name, by decide, Tryz.func121.trans (congrArg some (by kernel_rfl))⟩
  f31 := Tryz.func99.trans (congrArg some (by kernel_rfl))
  f32 := Tryz.func100.trans (congrArg some (by kernel_rfl))
  f36 := ⟨Tryz.f127.name, by decide, Tryz.func127.trans (congrArg some (by kernel_rfl))⟩
  f37 := ⟨Tryz.f128.name, by decide, Tryz.func128.trans (congrArg some (by kernel_rfl))⟩
  f38 := ⟨Tryz.f129.name, by decide, Tryz.func129.trans (congrArg some (by kernel_rfl))⟩
  f39 := ⟨Tryz.f130.name, by decide, Tryz.func130.trans (congrArg some (by kernel_rfl))⟩
  f41 := ⟨Tryz.f132.name, by decide, Tryz.func132.trans (congrArg some (by kernel_rfl))⟩
  t0 := Tryz.underlying0
  a0 := Tryz.isAgg0
  z0 := Tryz.sizeOf0
  v0 := Tryz.zeroValue0
  t3 := Tryz.underlying3
  a3 := Tryz.isAgg3
  z3 := Tryz.sizeOf3
  v3 := Tryz.zeroValue3
  t4 := Tryz.underlying4
  a4 := Tryz.isAgg4
  z4 := Tryz.sizeOf4
  v4 := Tryz.zeroValue4
  t5 := Tryz.underlying5
  a5 := Tryz.isAgg5
  z5 := Tryz.sizeOf5
  v5 := Tryz.zeroValue5
  t9 := Tryz.underlying9
  a9 := Tryz.isAgg9
  z9 := Tryz.sizeOf9
  v9 := Tryz.zeroValue9
  t26 := Tryz.underlying109
  a26 := Tryz.isAgg109
  z26 := Tryz.sizeOf109
  v26 := Tryz.zeroValue109
  t27 := Tryz.underlying109
  a27 := Tryz.isAgg109
  z27 := Tryz.sizeOf109
  v27 := Tryz.zeroValue109
  t29 := Tryz.underlying9
  a29 := Tryz.isAgg9
  z29 := Tryz.sizeOf9
  v29 := Tryz.zeroValue9
  t32 := Tryz.underlying121
  a32 := Tryz.isAgg121
  z32 := Tryz.sizeOf121
  v32 := Tryz.zeroValue121
  t35 := Tryz.underlying141
  a35 := Tryz.isAgg141
  z35 := Tryz.sizeOf141
  v35 := Tryz.zeroValue141
  t36 := Tryz.underlying142
  a36 := Tryz.isAgg142
  z36 := Tryz.sizeOf142
  v36 := Tryz.zeroValue142
  t41 := Tryz.underlying46
  a41 := Tryz.isAgg46
  z41 := Tryz.sizeOf46
  v41 := Tryz.zeroValue46
  t44 := Tryz.underlying148
  a44 := Tryz.isAgg148
  z44 := Tryz.sizeOf148
  v44 := Tryz.zeroValue148
  t46 := Tryz.underlying150
  a46 := Tryz.isAgg150
  z46 := Tryz.sizeOf150
  v46 := Tryz.zeroValue150
  t53 := Tryz.underlying158
  a53 := Tryz.isAgg158
  z53 := Tryz.sizeOf158
  v53 := Tryz.zeroValue158
  t57 := Tryz.underlying162
  a57 := Tryz.isAgg162
  z57 := Tryz.sizeOf162
  v57 := Tryz.zeroValue162
  t63 := Tryz.underlying176
  a63 := Tryz.isAgg176
  z63 := Tryz.sizeOf176
  v63 := Tryz.zeroValue176
  t64 := Tryz.underlying177
  a64 := Tryz.isAgg177
  z64 := Tryz.sizeOf177
  v64 := Tryz.zeroValue177 }
def Tryz.keysB_ren : Go.Shelf.Ren := ⟨fun | 7 => 44 | 10 => 67 | n => n, fun | 23 => 91 | 26 => 3 | 3 => 4 | 28 => 98 | 0 => 0 | 27 => 97 | 33 => 124 | 4 => 4 | n => n, fun | n => n⟩
theorem Tryz.keysB : Go.Proofs.SlLaysZI.n7 Tryz.prog Tryz.keysB_ren := {
  mixed := by kernel_rfl
  f7 := ⟨Tryz.f44.name, by decide, Tryz.func44.trans (congrArg some (by kernel_rfl))⟩
  f10 := ⟨Tryz.f67.name, by decide, Tryz.func67.trans (congrArg some (by kernel_rfl))⟩
  t0 := Tryz.underlying0
  a0 := Tryz.isAgg0
  z0 := Tryz.sizeOf0
  v0 := Tryz.zeroValue0
  t4 := Tryz.underlying4
  a4 := Tryz.isAgg4
  z4 := Tryz.sizeOf4
  v4 := Tryz.zeroValue4
  t23 := Tryz.underlying91
  a23 := Tryz.isAgg91
  z23 := Tryz.sizeOf91
  v23 := Tryz.zeroValue91
  t26 := Tryz.underlying3
  a26 := Tryz.isAgg3
  z26 := Tryz.sizeOf3
  v26 := Tryz.zeroValue3
  t27 := Tryz.underlying97
  a27 := Tryz.isAgg97
  z27 := Tryz.sizeOf97
  v27 := Tryz.zeroValue97
  t28 := Tryz.underlying98
  a28 := Tryz.isAgg98
  z28 := Tryz.sizeOf98
  v28 := Tryz.zeroValue98
  t33 := Tryz.underlying124
  a33 := Tryz.isAgg124
  z33 := Tryz.sizeOf124
  v33 := Tryz.zeroValue124 }
def Tryz.sortedB_ren : Go.Shelf.Ren := ⟨fun | 6 => 43 | 8 => 65 | 9 => 66 | 11 => 89 | 13 => 63 | 12 => 90 | 23 => 87 | 24 => 88 | 14 => 103 | 15 => 104 | 16 => 105 | 17 => 106 | 18 => 107 | 19 => 108 | 20 => 109 | 21 => 110 | 22 => 111 | 25 => 123 | 26 => 99 | 27 => 100 | 28 => 124 | 29 => 125 | 30 => 126 | 31 => 131 | n => n, fun | 26 => 3 | 28 => 98 | 24 => 44 | 0 => 0 | 3 => 3 | 37 => 121 | 48 => 148 | 50 => 150 | 4 => 4 | 40 => 142 | 39 => 141 | 45 => 46 | 5 => 5 | 9 => 9 | 51 => 158 | 55 => 162 | 57 => 176 | 58 => 177 | 33 => 124 | n => n, fun | n => n⟩
theorem Tryz.sortedB : Go.Proofs.SlLaysZI.n6 Tryz.prog Tryz.sortedB_ren := {
  mixed := by kernel_rfl
  f6 := ⟨Tryz.f43.name, by decide, Tryz.func43.trans (congrArg some (by kernel_rfl))⟩
  f8 := ⟨Tryz.f65.name, by decide, Tryz.func65.trans (congrArg some (by kernel_rfl))⟩
  f11 := ⟨Tryz.f89.name, by decide, Tryz.func89.trans (congrArg some (by kernel_rfl))⟩
  t0 := Tryz.underlying0
  a0 := Tryz.isAgg0
  z0 := Tryz.sizeOf0
  v0 := Tryz.zeroValue0
  t24 := Tryz.underlying44
  a24 := Tryz.isAgg44
  z24 := Tryz.sizeOf44
  v24 := Tryz.zeroValue44
  t26 := Tryz.underlying3
  a26 := Tryz.isAgg3
  z26 := Tryz.sizeOf3
  v26 := Tryz.zeroValue3
  t28 := Tryz.underlying98
  a28 := Tryz.isAgg98
  z28 := Tryz.sizeOf98
  v28 := Tryz.zeroValue98
  i26 := by kernel_rfl }
def Tryz.sortB_ren : Go.Shelf.Ren := ⟨fun | 5 => 66 | 8 => 63 | 7 => 90 | 19 => 87 | 20 => 88 | 10 => 103 | 11 => 104 | 12 => 105 | 13 => 106 | 14 => 107 | 15 => 108 | 16 => 109 | 17 => 110 | 18 => 111 | 30 => 123 | 31 => 99 | 32 => 100 | 33 => 124 | 34 => 125 | 35 => 126 | 40 => 131 | n => n, fun | 23 => 44 | 25 => 3 | 3 => 3 | 32 => 121 | 22 => 44 | 0 => 0 | 44 => 148 | 46 => 150 | 4 => 4 | 36 => 142 | 35 => 141 | 41 => 46 | 5 => 5 | 9 => 9 | 53 => 158 | 57 => 162 | 63 => 176 | 64 => 177 | n => n, fun | n => n⟩
theorem Tryz.sortB : Go.Proofs.SlLaysM.n5 Tryz.prog Tryz.sortB_ren := {
  mixed := by kernel_rfl
  f5 := ⟨Tryz.f66.name, by decide, Tryz.func66.trans (congrArg some (by kernel_rfl))⟩
  f7 := ⟨Tryz.f90.name, by decide, Tryz.func90.trans (congrArg some (by kernel_rfl))⟩
  f8 := Tryz.func63.trans (congrArg some (by kernel_rfl))
  f10 := ⟨Tryz.f103.name, by decide, Tryz.func103.trans (congrArg some (by kernel_rfl))⟩
  f11 := ⟨Tryz.f104.name, by decide, Tryz.func104.trans (congrArg some (by kernel_rfl))⟩
  f12 := ⟨Tryz.f105.name, by decide, Tryz.func105.trans (congrArg some (by kernel_rfl))⟩
  f13 := ⟨Tryz.f106.name, by decide, Tryz.func106.trans (congrArg some (by kernel_rfl))⟩
  f14 := ⟨Tryz.f107.name, by decide, Tryz.func107.trans (congrArg some (by kernel_rfl))⟩
  f15 := ⟨Tryz.f108.name, by decide, Tryz.func108.trans (congrArg some (by kernel_rfl))⟩
  f16 := ⟨Tryz.f109.name, by decide, Tryz.func109.trans (congrArg some (by kernel_rfl))⟩
  f17 := ⟨Tryz.f110.name, by decide, Tryz.func110.trans (congrArg some (by kernel_rfl))⟩
  f18 := ⟨Tryz.f111.name, by decide, Tryz.func111.trans (congrArg some (by kernel_rfl))⟩
  f19 := Tryz.func87.trans (congrArg some (by kernel_rfl))
  f20 := Tryz.func88.trans (congrArg some (by kernel_rfl))
  f30 := ⟨Tryz.f123.name, by decide, Tryz.func123.trans (congrArg some (by kernel_rfl))⟩
  f31 := Tryz.func99.trans (congrArg some (by kernel_rfl))
  f32 := Tryz.func100.trans (congrArg some (by kernel_rfl))
  f33 := ⟨Tryz.f124.name, by decide, Tryz.func124.trans (congrArg some (by kernel_rfl))⟩
  f34 := ⟨Tryz.f125.name, by decide, Tryz.func125.trans (congrArg some (by kernel_rfl))⟩
  f35 := ⟨Tryz.f126.name, by decide, Tryz.func126.trans (congrArg some (by kernel_rfl))⟩
  f40 := ⟨Tryz.f131.name, by decide, Tryz.func131.trans (congrArg some (by kernel_rfl))⟩
  t0 := Tryz.underlying0
  a0 := Tryz.isAgg0
  z0 := Tryz.sizeOf0
  v0 := Tryz.zeroValue0
  t3 := Tryz.underlying3
  a3 := Tryz.isAgg3
  z3 := Tryz.sizeOf3
  v3 := Tryz.zeroValue3
  t4 := Tryz.underlying4
  a4 := Tryz.isAgg4
  z4 := Tryz.sizeOf4
  v4 := Tryz.zeroValue4
  t5 := Tryz.underlying5
  a5 := Tryz.isAgg5
  z5 := Tryz.sizeOf5
  v5 := Tryz.zeroValue5
  t9 := Tryz.underlying9
  a9 := Tryz.isAgg9
  z9 := Tryz.sizeOf9
  v9 := Tryz.zeroValue9
  t22 := Tryz.underlying44
  a22 := Tryz.isAgg44
  z22 := Tryz.sizeOf44
  v22 := Tryz.zeroValue44
  t23 := Tryz.underlying44
  a23 := Tryz.isAgg44
  z23 := Tryz.sizeOf44
  v23 := Tryz.zeroValue44
  t25 := Tryz.underlying3
  a25 := Tryz.isAgg3
  z25 := Tryz.sizeOf3
  v25 := Tryz.zeroValue3
  t32 := Tryz.underlying121
  a32 := Tryz.isAgg121
  z32 := Tryz.sizeOf121
  v32 := Tryz.zeroValue121
  t35 := Tryz.underlying141
  a35 := Tryz.isAgg141
  z35 := Tryz.sizeOf141
  v35 := Tryz.zeroValue141
  t36 := Tryz.underlying142
  a36 := Tryz.isAgg142
  z36 := Tryz.sizeOf142
  v36 := Tryz.zeroValue142
  t41 := Tryz.underlying46
  a41 := Tryz.isAgg46
  z41 := Tryz.sizeOf46
  v41 := Tryz.zeroValue46
  t44 := Tryz.underlying148
  a44 := Tryz.isAgg148
  z44 := Tryz.sizeOf148
  v44 := Tryz.zeroValue148
  t46 := Tryz.underlying150
  a46 := Tryz.isAgg150
  z46 := Tryz.sizeOf150
  v46 := Tryz.zeroValue150
  t53 := Tryz.underlying158
  a53 := Tryz.isAgg158
  z53 := Tryz.sizeOf158
  v53 := Tryz.zeroValue158
  t57 := Tryz.underlying162
  a57 := Tryz.isAgg162
  z57 := Tryz.sizeOf162
  v57 := Tryz.zeroValue162
  t63 := Tryz.underlying176
  a63 := Tryz.isAgg176
  z63 := Tryz.sizeOf176
  v63 := Tryz.zeroValue176
  t64 := Tryz.underlying177
  a64 := Tryz.isAgg177
  z64 := Tryz.sizeOf177
  v64 := Tryz.zeroValue177 }
end Go.Proofs

/- Locks: the sorted keys of a map. -/
namespace Go.Proofs.YtakifgecgmdjcaaGreat
open Go Xf Go.RowKit Go.Maps Go.Sort Go.Shelf
open Go.WideElems (Fit rd rg rg_of rd_mk)
set_option linter.unusedVariables false
set_option linter.unusedSimpArgs false
set_option maxRecDepth 100000

abbrev strV (l : List UInt8) : Value := .string ⟨l.toArray⟩
theorem strV_ok : KeyOk Tryz.prog 9 strV := KeyOk.str u9
theorem Upd.ofBelow {w w' : World} (h : Below w.heap.size w w') : Upd w w' [] := ⟨h.os, h.tape, h.output, h.size, fun b hb _ => h.block b hb⟩
abbrev rdNil : Value → Option (DataW Unit × List MemPlace) := fun _ => some (.nil, [])
theorem ownsMap_of {κ ν : Type} [DecidableEq κ] {ke : κ → Value} {ve : ν → Value} {kt : TypeId} {lit : κ → Lit} {w : World} {b : Nat} {o : Obj} {l : List (κ × ν)} (hb : w.heap[b]? = some o) (hm : MapO ke ve l o) (hn : (l.map (·.1)).Nodup) (hl : l.length ≤ maxLen)
    (hk : ∀ p ∈ l, keyOf Tryz.prog kt (ke p.1) = some (lit p.1)) (hinj : ∀ a b, ke a = ke b → a = b) :
    ∃ E : List (Lit × DataW Unit), w.ownsMap Tryz.prog kt rdNil b l.length (.map E) ∧ (E.map (·.1)).Perm (l.map fun p => lit p.1) ∧ E.length = l.length := by
  obtain ⟨es, clock, rfl, hes, hbn, hc⟩ := hm
  have hlen : es.toList.length = l.length := by have := congrArg List.length hes; simpa using this
  have hkeys : es.toList.map (·.key) = l.map fun p => ke p.1 := by
    have := congrArg (List.map (·.1)) hes
    simpa [List.map_map, Function.comp_def] using this
  have hrd : ∀ x ∈ es.toList, ∃ p ∈ l, x.key = ke p.1 := fun x hx => by
    have : x.key ∈ es.toList.map (·.key) := List.mem_map_of_mem hx
    rw [hkeys] at this
    obtain ⟨p, hp, he⟩ := List.mem_map.1 this
    exact ⟨p, hp, he.symm⟩
  have hF : Fit Tryz.prog kt rdNil es clock := by
    refine ⟨by rw [Array.length_toList] at hlen; omega, ⟨hc, hbn, ?_⟩, fun x hx => ?_⟩
    · rw [hkeys, show (l.map fun p => ke p.1) = (l.map (·.1)).map ke by rw [List.map_map]; rfl]
      exact List.pairwise_map.2 (hn.imp fun {a b} hne h => hne (hinj _ _ h))
    · obtain ⟨p, hp, he⟩ := hrd x hx
      exact ⟨(lit p.1, .nil), by unfold Go.WideElems.rd; rw [he, hk p hp]; rfl⟩
  refine ⟨(es.toList.map (rg Tryz.prog kt rdNil)).foldr DataW.insert [], ⟨es, clock, hb, hF, by rw [← hlen]; simp, rfl⟩, ?_, ?_⟩
  · refine ((Go.WideShapes.sorted_perm _).map _).trans ?_
    rw [List.map_map]
    have : es.toList.map ((·.1) ∘ rg Tryz.prog kt rdNil) = l.map fun p => lit p.1 := by
      have h1 : es.toList.map ((·.1) ∘ rg Tryz.prog kt rdNil) = (es.toList.map (·.key)).map fun v => (keyOf Tryz.prog kt v).getD (.bool false) := by
        rw [List.map_map]
        refine List.map_congr_left fun x hx => ?_
        obtain ⟨p, hp, he⟩ := hrd x hx
        have : Go.WideElems.rd Tryz.prog kt rdNil x = some (lit p.1, .nil) := by unfold Go.WideElems.rd; rw [he, hk p hp]; rfl
        simp only [Function.comp_apply, rg_of this, he, hk p hp, Option.getD_some]
      rw [h1, hkeys, List.map_map]
      refine List.map_congr_left fun p hp => ?_
      simp only [Function.comp_apply, hk p hp, Option.getD_some]
    rw [this]
  · rw [(Go.WideShapes.sorted_perm _).length_eq, List.length_map, hlen]
theorem RowH.ofOwns {w : World} {B : Nat} {e : TypeId} {sz : Nat} {v : Value} {n : Nat} {xs : List Value} (h : w.ownsRow B e sz v n xs) : ∃ ht, RowH e sz v n xs ht ∧ Owns w ht ∧ ∀ p ∈ ht, B ≤ p.1 := by
  obtain ⟨h1, h2 | ⟨g, cap, cur, hv, hB, hg, hn, hcm, hcs, htk⟩⟩ := h
  · exact ⟨[], ⟨h1, .inl ⟨h2.1, h2.2, rfl⟩⟩, Owns.nil _, fun p hp => by cases hp⟩
  · refine ⟨[(g, .cells cur e (0, 0))], ⟨h1, .inr ⟨g, cap, cur, hv, rfl, hn, hcm, hcs, htk⟩⟩, ⟨by simp, fun p hp => ?_⟩, fun p hp => ?_⟩
    · rw [List.mem_singleton] at hp; subst hp; exact hg
    · rw [List.mem_singleton] at hp; subst hp; exact hB
theorem Owns.add {w w' : World} {h F : List (Nat × Obj)} (hF : Owns w F) (hU : Upd w w' []) (hh : Owns w' h) (hn : ∀ p ∈ h, w.heap.size ≤ p.1) : Owns w' (h ++ F) := by
  refine ⟨?_, fun p hp => ?_⟩
  · rw [List.map_append, List.nodup_append]
    refine ⟨hh.1, hF.1, fun a ha b hb he => ?_⟩
    obtain ⟨p, hp, rfl⟩ := List.mem_map.1 ha
    obtain ⟨q, hq, rfl⟩ := List.mem_map.1 hb
    have := hn p hp
    have := hF.lt hq
    omega
  · rcases List.mem_append.1 hp with hp | hp
    · exact hh.2 p hp
    · exact (hF.ext hU).2 p hp

section
variable {w W : World} {ν : Type} {ve : ν → Value} {b : Nat} {o : Obj} {ks : List Nat} {F : List (Nat × Obj)}
theorem sortsA (m : Nat) : AnyZ.SortsIn Tryz.prog Tryz.sortedA_ren Fence.wide m :=
  ⟨fun blk off cap ss W hH hblk hsz => callsIn_wide.2 (AnyM.slices_Sort_string Tryz.sortA blk off cap ss W hH hblk hsz),
   fun p cap W => callsIn_wide.2 (AnyM.slices_Sort_string_none Tryz.sortA p cap W)⟩
def seqS (g : Nat) : Value := .func (.func 76) #[] #[.pointer (some ⟨g, 0, none⟩)]
def sortS (l : List (List UInt8)) : List (List UInt8) := l.mergeSort fun x y => decide (x ≤ y)
theorem KeysS_spec (w : World) (b : Nat) : CallsR Tryz.prog 54 #[.map (some b)] w fun u w' => u = seqS w.heap.size ∧ w' = w.alloc (.cells #[.map (some b)] 64) :=
  Calls.mono (callsIn_wide.1 (AnyZ.keys_in Tryz.keysA Fence.wide 5 trivial rfl (some b) w)) fun e w' h => ⟨_, h.1, rfl, h.2⟩
theorem SortedS_spec {l : List (List UInt8 × ν)} (hb : w.heap[b]? = some o) (hm : MapO strV ve l o) (hn : (l.map (·.1)).Nodup) (hl : l.length ≤ 1000000) (hk : ∀ p ∈ l, p.1.length ≤ maxLen) :
    CallsR Tryz.prog 53 #[seqS w.heap.size] (w.alloc (.cells #[.map (some b)] 64)) fun u w' => ∃ h, RowH 9 1 u (sortS (l.map (·.1))).length ((sortS (l.map (·.1))).map strV) h ∧ Owns w' h ∧ Upd w w' [] ∧ ∀ p ∈ h, w.heap.size ≤ p.1 := by
  have hmx : (1000000 : Nat) ≤ maxLen := by decide
  obtain ⟨E, hown, hperm, hlen⟩ := ownsMap_of (kt := 9) (lit := fun k => .string k) hb hm hn (by omega) (fun p hp => by
    unfold keyOf mapKey
    simp only [u9, size_mk, hk p hp, if_true]) fun a b h => by simpa using h
  have hbl := hown.lt
  have hsk : (strKeys (.map E)).Perm (l.map (·.1)) := by
    have h1 : strKeys (.map E) = (E.map (·.1)).map strOf := by unfold strKeys; rw [List.map_map]; rfl
    rw [h1]
    refine (hperm.map strOf).trans ?_
    rw [List.map_map]
    exact .of_eq (List.map_congr_left fun p hp => rfl)
  have hsz : Maps.size (.map E) = l.length := hlen
  have hseq : SeqGives Fence.wide 2 Tryz.prog 76 #[.pointer (some ⟨w.heap.size, 0, none⟩)] encStr (fun ss => ss.Perm (strKeys (.map E))) (Maps.size (.map E)) (w.alloc (.cells #[.map (some b)] 64)) :=
    AnyZ.keys_gives (ρ := Tryz.keysA_ren) { Tryz.keysA with } Fence.wide _ trivial rfl (by omega) w.heap.size b l.length (.map E) _ (by simp) (by simp) (by
      obtain ⟨es, clock, hb, Ft, hs, hD⟩ := hown
      exact ⟨es, clock, (Below.heap_alloc _ _ b hbl).trans hb, Ft, hs, hD⟩)
  have cS := AnyZ.sorted_in Tryz.sortedA Fence.wide 5 trivial trivial trivial trivial rfl (by omega) (sortsA _) (enters_of Tryz.func75 (by kernel_rfl) rfl) 76 #[.pointer (some ⟨w.heap.size, 0, none⟩)] trivial (enters_of Tryz.func76 (by kernel_rfl) rfl) _ _ (by rw [hsz]; omega) (by rw [hsz]; omega) _ hseq
  change CallsIn _ _ Tryz.prog 53 _ _ _ at cS
  refine Calls.mono (callsIn_wide.1 cS) ?_
  rintro e w' ⟨v, ss, rfl, hS, hrow, hnil, hB⟩
  obtain ⟨ht, hr, hO, hge⟩ := RowH.ofOwns hrow
  have hss : ss.Perm (l.map (·.1)) := hS.trans hsk
  have he : (ss.mergeSort fun x y => decide (x ≤ y)) = sortS (l.map (·.1)) := mergeSort_of_perm hss
  have hlen2 : (sortS (l.map (·.1))).length = ss.length := by rw [← he, List.length_mergeSort]
  refine ⟨v, rfl, ht, ?_, hO, ?_, fun p hp => ?_⟩
  · rw [hlen2, ← he]; exact hr
  · exact (Upd.alloc w _ []).trans (Upd.ofBelow hB)
  · have := hge p hp
    simp at this
    omega
end
end Go.Proofs.YtakifgecgmdjcaaGreat
