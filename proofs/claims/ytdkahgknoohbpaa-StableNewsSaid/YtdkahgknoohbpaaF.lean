/- Closed facts about the types of the program, and the rules for the steps at these types. Written by a program of this work. -/
import Derived.Test.YtdkahgknoohbpaaRf
import Derived.Test.YtdkahgknoohbpaaProg
import Derived.KernelRfl
namespace Go.Proofs.Ytdkahgknoohbpaa
open Go Xf
set_option linter.unusedVariables false
set_option maxRecDepth 100000

-- 2: int64
theorem u2 : Try.prog.underlying 2 = some (.int .i64) := by kernel_rfl
theorem ag2 : (Try.prog.underlying 2).map isAggD = some false := by kernel_rfl
theorem sz2 : (Try.prog.info? 2).map (·.size) = some 1 := by kernel_rfl
theorem ze2 : (Try.prog.info? 2).bind (·.zero) = some (.int .i64 0) := by kernel_rfl
theorem inf2 : ∃ i, Try.prog.info? 2 = some i ∧ i.zero = some (.int .i64 0) ∧ i.size = 1 ∧ i.bytes = 8 := info_parts (by kernel_rfl : (Try.prog.info? 2).map (fun i => (i.zero, i.size, i.bytes)) = some (some (.int .i64 0), 1, 8))
-- 3: int
theorem u3 : Try.prog.underlying 3 = some (.int .i64) := by kernel_rfl
theorem ag3 : (Try.prog.underlying 3).map isAggD = some false := by kernel_rfl
theorem sz3 : (Try.prog.info? 3).map (·.size) = some 1 := by kernel_rfl
theorem ze3 : (Try.prog.info? 3).bind (·.zero) = some (.int .i64 0) := by kernel_rfl
theorem inf3 : ∃ i, Try.prog.info? 3 = some i ∧ i.zero = some (.int .i64 0) ∧ i.size = 1 ∧ i.bytes = 8 := info_parts (by kernel_rfl : (Try.prog.info? 3).map (fun i => (i.zero, i.size, i.bytes)) = some (some (.int .i64 0), 1, 8))
-- 4: bool
theorem u4 : Try.prog.underlying 4 = some (.bool) := by kernel_rfl
theorem ag4 : (Try.prog.underlying 4).map isAggD = some false := by kernel_rfl
theorem sz4 : (Try.prog.info? 4).map (·.size) = some 1 := by kernel_rfl
theorem ze4 : (Try.prog.info? 4).bind (·.zero) = some (.bool false) := by kernel_rfl
theorem inf4 : ∃ i, Try.prog.info? 4 = some i ∧ i.zero = some (.bool false) ∧ i.size = 1 ∧ i.bytes = 1 := info_parts (by kernel_rfl : (Try.prog.info? 4).map (fun i => (i.zero, i.size, i.bytes)) = some (some (.bool false), 1, 1))
-- 5: uint8
theorem u5 : Try.prog.underlying 5 = some (.int .u8) := by kernel_rfl
theorem ag5 : (Try.prog.underlying 5).map isAggD = some false := by kernel_rfl
theorem sz5 : (Try.prog.info? 5).map (·.size) = some 1 := by kernel_rfl
theorem ze5 : (Try.prog.info? 5).bind (·.zero) = some (.int .u8 0) := by kernel_rfl
theorem inf5 : ∃ i, Try.prog.info? 5 = some i ∧ i.zero = some (.int .u8 0) ∧ i.size = 1 ∧ i.bytes = 1 := info_parts (by kernel_rfl : (Try.prog.info? 5).map (fun i => (i.zero, i.size, i.bytes)) = some (some (.int .u8 0), 1, 1))
-- 9: string
theorem u9 : Try.prog.underlying 9 = some (.string) := by kernel_rfl
theorem ag9 : (Try.prog.underlying 9).map isAggD = some false := by kernel_rfl
theorem sz9 : (Try.prog.info? 9).map (·.size) = some 1 := by kernel_rfl
theorem ze9 : (Try.prog.info? 9).bind (·.zero) = some (.string ⟨#[]⟩) := by kernel_rfl
theorem inf9 : ∃ i, Try.prog.info? 9 = some i ∧ i.zero = some (.string ⟨#[]⟩) ∧ i.size = 1 ∧ i.bytes = 16 := info_parts (by kernel_rfl : (Try.prog.info? 9).map (fun i => (i.zero, i.size, i.bytes)) = some (some (.string ⟨#[]⟩), 1, 16))
-- 22: []flotillalaw08.Op
theorem u22 : Try.prog.underlying 22 = some (.slice 24) := by kernel_rfl
theorem ag22 : (Try.prog.underlying 22).map isAggD = some false := by kernel_rfl
theorem sz22 : (Try.prog.info? 22).map (·.size) = some 1 := by kernel_rfl
theorem ze22 : (Try.prog.info? 22).bind (·.zero) = some (.slice none 0 0) := by kernel_rfl
theorem inf22 : ∃ i, Try.prog.info? 22 = some i ∧ i.zero = some (.slice none 0 0) ∧ i.size = 1 ∧ i.bytes = 24 := info_parts (by kernel_rfl : (Try.prog.info? 22).map (fun i => (i.zero, i.size, i.bytes)) = some (some (.slice none 0 0), 1, 24))
-- 23: struct { Kind int; Hand int; At int; N int; Fill uint8 }
theorem ag23 : (Try.prog.underlying 23).map isAggD = some true := by kernel_rfl
theorem sz23 : (Try.prog.info? 23).map (·.size) = some 5 := by kernel_rfl
theorem ze23 : (Try.prog.info? 23).bind (·.zero) = some (.agg #[.int .i64 0, .int .i64 0, .int .i64 0, .int .i64 0, .int .u8 0]) := by kernel_rfl
theorem inf23 : ∃ i, Try.prog.info? 23 = some i ∧ i.zero = some (.agg #[.int .i64 0, .int .i64 0, .int .i64 0, .int .i64 0, .int .u8 0]) ∧ i.size = 5 ∧ i.bytes = 40 := info_parts (by kernel_rfl : (Try.prog.info? 23).map (fun i => (i.zero, i.size, i.bytes)) = some (some (.agg #[.int .i64 0, .int .i64 0, .int .i64 0, .int .i64 0, .int .u8 0]), 5, 40))
-- 24: flotillalaw08.Op
theorem ag24 : (Try.prog.underlying 24).map isAggD = some true := by kernel_rfl
theorem sz24 : (Try.prog.info? 24).map (·.size) = some 5 := by kernel_rfl
theorem ze24 : (Try.prog.info? 24).bind (·.zero) = some (.agg #[.int .i64 0, .int .i64 0, .int .i64 0, .int .i64 0, .int .u8 0]) := by kernel_rfl
theorem inf24 : ∃ i, Try.prog.info? 24 = some i ∧ i.zero = some (.agg #[.int .i64 0, .int .i64 0, .int .i64 0, .int .i64 0, .int .u8 0]) ∧ i.size = 5 ∧ i.bytes = 40 := info_parts (by kernel_rfl : (Try.prog.info? 24).map (fun i => (i.zero, i.size, i.bytes)) = some (some (.agg #[.int .i64 0, .int .i64 0, .int .i64 0, .int .i64 0, .int .u8 0]), 5, 40))
-- 25: struct { Size int; L []flotillalaw08.Op; O flotillalaw08.Op; Sectors int }
theorem ag25 : (Try.prog.underlying 25).map isAggD = some true := by kernel_rfl
theorem sz25 : (Try.prog.info? 25).map (·.size) = some 8 := by kernel_rfl
theorem ze25 : (Try.prog.info? 25).bind (·.zero) = some (.agg #[.int .i64 0, .slice none 0 0, .int .i64 0, .int .i64 0, .int .i64 0, .int .i64 0, .int .u8 0, .int .i64 0]) := by kernel_rfl
theorem inf25 : ∃ i, Try.prog.info? 25 = some i ∧ i.zero = some (.agg #[.int .i64 0, .slice none 0 0, .int .i64 0, .int .i64 0, .int .i64 0, .int .i64 0, .int .u8 0, .int .i64 0]) ∧ i.size = 8 ∧ i.bytes = 80 := info_parts (by kernel_rfl : (Try.prog.info? 25).map (fun i => (i.zero, i.size, i.bytes)) = some (some (.agg #[.int .i64 0, .slice none 0 0, .int .i64 0, .int .i64 0, .int .i64 0, .int .i64 0, .int .u8 0, .int .i64 0]), 8, 80))
-- 26: flotillalaw08.Torn
theorem ag26 : (Try.prog.underlying 26).map isAggD = some true := by kernel_rfl
theorem sz26 : (Try.prog.info? 26).map (·.size) = some 8 := by kernel_rfl
theorem ze26 : (Try.prog.info? 26).bind (·.zero) = some (.agg #[.int .i64 0, .slice none 0 0, .int .i64 0, .int .i64 0, .int .i64 0, .int .i64 0, .int .u8 0, .int .i64 0]) := by kernel_rfl
theorem inf26 : ∃ i, Try.prog.info? 26 = some i ∧ i.zero = some (.agg #[.int .i64 0, .slice none 0 0, .int .i64 0, .int .i64 0, .int .i64 0, .int .i64 0, .int .u8 0, .int .i64 0]) ∧ i.size = 8 ∧ i.bytes = 80 := info_parts (by kernel_rfl : (Try.prog.info? 26).map (fun i => (i.zero, i.size, i.bytes)) = some (some (.agg #[.int .i64 0, .slice none 0 0, .int .i64 0, .int .i64 0, .int .i64 0, .int .i64 0, .int .u8 0, .int .i64 0]), 8, 80))
-- 27: *stable.Device
theorem u27 : Try.prog.underlying 27 = some (.pointer 60) := by kernel_rfl
theorem ag27 : (Try.prog.underlying 27).map isAggD = some false := by kernel_rfl
theorem sz27 : (Try.prog.info? 27).map (·.size) = some 1 := by kernel_rfl
theorem ze27 : (Try.prog.info? 27).bind (·.zero) = some (.pointer none) := by kernel_rfl
theorem inf27 : ∃ i, Try.prog.info? 27 = some i ∧ i.zero = some (.pointer none) ∧ i.size = 1 ∧ i.bytes = 8 := info_parts (by kernel_rfl : (Try.prog.info? 27).map (fun i => (i.zero, i.size, i.bytes)) = some (some (.pointer none), 1, 8))
-- 28: api.Errno
theorem u28 : Try.prog.underlying 28 = some (.int .i64) := by kernel_rfl
theorem ag28 : (Try.prog.underlying 28).map isAggD = some false := by kernel_rfl
theorem sz28 : (Try.prog.info? 28).map (·.size) = some 1 := by kernel_rfl
theorem ze28 : (Try.prog.info? 28).bind (·.zero) = some (.int .i64 0) := by kernel_rfl
theorem inf28 : ∃ i, Try.prog.info? 28 = some i ∧ i.zero = some (.int .i64 0) ∧ i.size = 1 ∧ i.bytes = 8 := info_parts (by kernel_rfl : (Try.prog.info? 28).map (fun i => (i.zero, i.size, i.bytes)) = some (some (.int .i64 0), 1, 8))
-- 34: []uint8
theorem u34 : Try.prog.underlying 34 = some (.slice 5) := by kernel_rfl
theorem ag34 : (Try.prog.underlying 34).map isAggD = some false := by kernel_rfl
theorem sz34 : (Try.prog.info? 34).map (·.size) = some 1 := by kernel_rfl
theorem ze34 : (Try.prog.info? 34).bind (·.zero) = some (.slice none 0 0) := by kernel_rfl
theorem inf34 : ∃ i, Try.prog.info? 34 = some i ∧ i.zero = some (.slice none 0 0) ∧ i.size = 1 ∧ i.bytes = 24 := info_parts (by kernel_rfl : (Try.prog.info? 34).map (fun i => (i.zero, i.size, i.bytes)) = some (some (.slice none 0 0), 1, 24))
-- 47: struct { On bool; At int; B string }
theorem ag47 : (Try.prog.underlying 47).map isAggD = some true := by kernel_rfl
theorem sz47 : (Try.prog.info? 47).map (·.size) = some 3 := by kernel_rfl
theorem ze47 : (Try.prog.info? 47).bind (·.zero) = some (.agg #[.bool false, .int .i64 0, .string ⟨#[]⟩]) := by kernel_rfl
theorem inf47 : ∃ i, Try.prog.info? 47 = some i ∧ i.zero = some (.agg #[.bool false, .int .i64 0, .string ⟨#[]⟩]) ∧ i.size = 3 ∧ i.bytes = 32 := info_parts (by kernel_rfl : (Try.prog.info? 47).map (fun i => (i.zero, i.size, i.bytes)) = some (some (.agg #[.bool false, .int .i64 0, .string ⟨#[]⟩]), 3, 32))
-- 48: flotillaref08.Write
theorem ag48 : (Try.prog.underlying 48).map isAggD = some true := by kernel_rfl
theorem sz48 : (Try.prog.info? 48).map (·.size) = some 3 := by kernel_rfl
theorem ze48 : (Try.prog.info? 48).bind (·.zero) = some (.agg #[.bool false, .int .i64 0, .string ⟨#[]⟩]) := by kernel_rfl
theorem inf48 : ∃ i, Try.prog.info? 48 = some i ∧ i.zero = some (.agg #[.bool false, .int .i64 0, .string ⟨#[]⟩]) ∧ i.size = 3 ∧ i.bytes = 32 := info_parts (by kernel_rfl : (Try.prog.info? 48).map (fun i => (i.zero, i.size, i.bytes)) = some (some (.agg #[.bool false, .int .i64 0, .string ⟨#[]⟩]), 3, 32))
-- 49: [8]flotillaref08.Write
theorem u49 : Try.prog.underlying 49 = some (.array 8 48) := by kernel_rfl
theorem ag49 : (Try.prog.underlying 49).map isAggD = some true := by kernel_rfl
theorem sz49 : (Try.prog.info? 49).map (·.size) = some 24 := by kernel_rfl
theorem ze49 : (Try.prog.info? 49).bind (·.zero) = some (.agg #[.bool false, .int .i64 0, .string ⟨#[]⟩, .bool false, .int .i64 0, .string ⟨#[]⟩, .bool false, .int .i64 0, .string ⟨#[]⟩, .bool false, .int .i64 0, .string ⟨#[]⟩, .bool false, .int .i64 0, .string ⟨#[]⟩, .bool false, .int .i64 0, .string ⟨#[]⟩, .bool false, .int .i64 0, .string ⟨#[]⟩, .bool false, .int .i64 0, .string ⟨#[]⟩]) := by kernel_rfl
theorem inf49 : ∃ i, Try.prog.info? 49 = some i ∧ i.zero = some (.agg #[.bool false, .int .i64 0, .string ⟨#[]⟩, .bool false, .int .i64 0, .string ⟨#[]⟩, .bool false, .int .i64 0, .string ⟨#[]⟩, .bool false, .int .i64 0, .string ⟨#[]⟩, .bool false, .int .i64 0, .string ⟨#[]⟩, .bool false, .int .i64 0, .string ⟨#[]⟩, .bool false, .int .i64 0, .string ⟨#[]⟩, .bool false, .int .i64 0, .string ⟨#[]⟩]) ∧ i.size = 24 ∧ i.bytes = 256 := info_parts (by kernel_rfl : (Try.prog.info? 49).map (fun i => (i.zero, i.size, i.bytes)) = some (some (.agg #[.bool false, .int .i64 0, .string ⟨#[]⟩, .bool false, .int .i64 0, .string ⟨#[]⟩, .bool false, .int .i64 0, .string ⟨#[]⟩, .bool false, .int .i64 0, .string ⟨#[]⟩, .bool false, .int .i64 0, .string ⟨#[]⟩, .bool false, .int .i64 0, .string ⟨#[]⟩, .bool false, .int .i64 0, .string ⟨#[]⟩, .bool false, .int .i64 0, .string ⟨#[]⟩]), 24, 256))
-- 50: struct { B string; Up [8]flotillaref08.Write }
theorem ag50 : (Try.prog.underlying 50).map isAggD = some true := by kernel_rfl
theorem sz50 : (Try.prog.info? 50).map (·.size) = some 25 := by kernel_rfl
theorem ze50 : (Try.prog.info? 50).bind (·.zero) = some (.agg #[.string ⟨#[]⟩, .bool false, .int .i64 0, .string ⟨#[]⟩, .bool false, .int .i64 0, .string ⟨#[]⟩, .bool false, .int .i64 0, .string ⟨#[]⟩, .bool false, .int .i64 0, .string ⟨#[]⟩, .bool false, .int .i64 0, .string ⟨#[]⟩, .bool false, .int .i64 0, .string ⟨#[]⟩, .bool false, .int .i64 0, .string ⟨#[]⟩, .bool false, .int .i64 0, .string ⟨#[]⟩]) := by kernel_rfl
theorem inf50 : ∃ i, Try.prog.info? 50 = some i ∧ i.zero = some (.agg #[.string ⟨#[]⟩, .bool false, .int .i64 0, .string ⟨#[]⟩, .bool false, .int .i64 0, .string ⟨#[]⟩, .bool false, .int .i64 0, .string ⟨#[]⟩, .bool false, .int .i64 0, .string ⟨#[]⟩, .bool false, .int .i64 0, .string ⟨#[]⟩, .bool false, .int .i64 0, .string ⟨#[]⟩, .bool false, .int .i64 0, .string ⟨#[]⟩, .bool false, .int .i64 0, .string ⟨#[]⟩]) ∧ i.size = 25 ∧ i.bytes = 272 := info_parts (by kernel_rfl : (Try.prog.info? 50).map (fun i => (i.zero, i.size, i.bytes)) = some (some (.agg #[.string ⟨#[]⟩, .bool false, .int .i64 0, .string ⟨#[]⟩, .bool false, .int .i64 0, .string ⟨#[]⟩, .bool false, .int .i64 0, .string ⟨#[]⟩, .bool false, .int .i64 0, .string ⟨#[]⟩, .bool false, .int .i64 0, .string ⟨#[]⟩, .bool false, .int .i64 0, .string ⟨#[]⟩, .bool false, .int .i64 0, .string ⟨#[]⟩, .bool false, .int .i64 0, .string ⟨#[]⟩]), 25, 272))
-- 51: flotillaref08.Device
theorem ag51 : (Try.prog.underlying 51).map isAggD = some true := by kernel_rfl
theorem sz51 : (Try.prog.info? 51).map (·.size) = some 25 := by kernel_rfl
theorem ze51 : (Try.prog.info? 51).bind (·.zero) = some (.agg #[.string ⟨#[]⟩, .bool false, .int .i64 0, .string ⟨#[]⟩, .bool false, .int .i64 0, .string ⟨#[]⟩, .bool false, .int .i64 0, .string ⟨#[]⟩, .bool false, .int .i64 0, .string ⟨#[]⟩, .bool false, .int .i64 0, .string ⟨#[]⟩, .bool false, .int .i64 0, .string ⟨#[]⟩, .bool false, .int .i64 0, .string ⟨#[]⟩, .bool false, .int .i64 0, .string ⟨#[]⟩]) := by kernel_rfl
theorem inf51 : ∃ i, Try.prog.info? 51 = some i ∧ i.zero = some (.agg #[.string ⟨#[]⟩, .bool false, .int .i64 0, .string ⟨#[]⟩, .bool false, .int .i64 0, .string ⟨#[]⟩, .bool false, .int .i64 0, .string ⟨#[]⟩, .bool false, .int .i64 0, .string ⟨#[]⟩, .bool false, .int .i64 0, .string ⟨#[]⟩, .bool false, .int .i64 0, .string ⟨#[]⟩, .bool false, .int .i64 0, .string ⟨#[]⟩, .bool false, .int .i64 0, .string ⟨#[]⟩]) ∧ i.size = 25 ∧ i.bytes = 272 := info_parts (by kernel_rfl : (Try.prog.info? 51).map (fun i => (i.zero, i.size, i.bytes)) = some (some (.agg #[.string ⟨#[]⟩, .bool false, .int .i64 0, .string ⟨#[]⟩, .bool false, .int .i64 0, .string ⟨#[]⟩, .bool false, .int .i64 0, .string ⟨#[]⟩, .bool false, .int .i64 0, .string ⟨#[]⟩, .bool false, .int .i64 0, .string ⟨#[]⟩, .bool false, .int .i64 0, .string ⟨#[]⟩, .bool false, .int .i64 0, .string ⟨#[]⟩, .bool false, .int .i64 0, .string ⟨#[]⟩]), 25, 272))
-- 57: *stable.write
theorem u57 : Try.prog.underlying 57 = some (.pointer 62) := by kernel_rfl
theorem ag57 : (Try.prog.underlying 57).map isAggD = some false := by kernel_rfl
theorem sz57 : (Try.prog.info? 57).map (·.size) = some 1 := by kernel_rfl
theorem ze57 : (Try.prog.info? 57).bind (·.zero) = some (.pointer none) := by kernel_rfl
theorem inf57 : ∃ i, Try.prog.info? 57 = some i ∧ i.zero = some (.pointer none) ∧ i.size = 1 ∧ i.bytes = 8 := info_parts (by kernel_rfl : (Try.prog.info? 57).map (fun i => (i.zero, i.size, i.bytes)) = some (some (.pointer none), 1, 8))
-- 58: [8]*stable.write
theorem u58 : Try.prog.underlying 58 = some (.array 8 57) := by kernel_rfl
theorem ag58 : (Try.prog.underlying 58).map isAggD = some true := by kernel_rfl
theorem sz58 : (Try.prog.info? 58).map (·.size) = some 8 := by kernel_rfl
theorem ze58 : (Try.prog.info? 58).bind (·.zero) = some (.agg #[.pointer none, .pointer none, .pointer none, .pointer none, .pointer none, .pointer none, .pointer none, .pointer none]) := by kernel_rfl
theorem inf58 : ∃ i, Try.prog.info? 58 = some i ∧ i.zero = some (.agg #[.pointer none, .pointer none, .pointer none, .pointer none, .pointer none, .pointer none, .pointer none, .pointer none]) ∧ i.size = 8 ∧ i.bytes = 64 := info_parts (by kernel_rfl : (Try.prog.info? 58).map (fun i => (i.zero, i.size, i.bytes)) = some (some (.agg #[.pointer none, .pointer none, .pointer none, .pointer none, .pointer none, .pointer none, .pointer none, .pointer none]), 8, 64))
-- 59: struct { b []uint8; up [8]*stable.write }
theorem ag59 : (Try.prog.underlying 59).map isAggD = some true := by kernel_rfl
theorem sz59 : (Try.prog.info? 59).map (·.size) = some 9 := by kernel_rfl
theorem ze59 : (Try.prog.info? 59).bind (·.zero) = some (.agg #[.slice none 0 0, .pointer none, .pointer none, .pointer none, .pointer none, .pointer none, .pointer none, .pointer none, .pointer none]) := by kernel_rfl
theorem inf59 : ∃ i, Try.prog.info? 59 = some i ∧ i.zero = some (.agg #[.slice none 0 0, .pointer none, .pointer none, .pointer none, .pointer none, .pointer none, .pointer none, .pointer none, .pointer none]) ∧ i.size = 9 ∧ i.bytes = 88 := info_parts (by kernel_rfl : (Try.prog.info? 59).map (fun i => (i.zero, i.size, i.bytes)) = some (some (.agg #[.slice none 0 0, .pointer none, .pointer none, .pointer none, .pointer none, .pointer none, .pointer none, .pointer none, .pointer none]), 9, 88))
-- 60: stable.Device
theorem ag60 : (Try.prog.underlying 60).map isAggD = some true := by kernel_rfl
theorem sz60 : (Try.prog.info? 60).map (·.size) = some 9 := by kernel_rfl
theorem ze60 : (Try.prog.info? 60).bind (·.zero) = some (.agg #[.slice none 0 0, .pointer none, .pointer none, .pointer none, .pointer none, .pointer none, .pointer none, .pointer none, .pointer none]) := by kernel_rfl
theorem inf60 : ∃ i, Try.prog.info? 60 = some i ∧ i.zero = some (.agg #[.slice none 0 0, .pointer none, .pointer none, .pointer none, .pointer none, .pointer none, .pointer none, .pointer none, .pointer none]) ∧ i.size = 9 ∧ i.bytes = 88 := info_parts (by kernel_rfl : (Try.prog.info? 60).map (fun i => (i.zero, i.size, i.bytes)) = some (some (.agg #[.slice none 0 0, .pointer none, .pointer none, .pointer none, .pointer none, .pointer none, .pointer none, .pointer none, .pointer none]), 9, 88))
-- 61: struct { at int; b []uint8 }
theorem ag61 : (Try.prog.underlying 61).map isAggD = some true := by kernel_rfl
theorem sz61 : (Try.prog.info? 61).map (·.size) = some 2 := by kernel_rfl
theorem ze61 : (Try.prog.info? 61).bind (·.zero) = some (.agg #[.int .i64 0, .slice none 0 0]) := by kernel_rfl
theorem inf61 : ∃ i, Try.prog.info? 61 = some i ∧ i.zero = some (.agg #[.int .i64 0, .slice none 0 0]) ∧ i.size = 2 ∧ i.bytes = 32 := info_parts (by kernel_rfl : (Try.prog.info? 61).map (fun i => (i.zero, i.size, i.bytes)) = some (some (.agg #[.int .i64 0, .slice none 0 0]), 2, 32))
-- 62: stable.write
theorem ag62 : (Try.prog.underlying 62).map isAggD = some true := by kernel_rfl
theorem sz62 : (Try.prog.info? 62).map (·.size) = some 2 := by kernel_rfl
theorem ze62 : (Try.prog.info? 62).bind (·.zero) = some (.agg #[.int .i64 0, .slice none 0 0]) := by kernel_rfl
theorem inf62 : ∃ i, Try.prog.info? 62 = some i ∧ i.zero = some (.agg #[.int .i64 0, .slice none 0 0]) ∧ i.size = 2 ∧ i.bytes = 32 := info_parts (by kernel_rfl : (Try.prog.info? 62).map (fun i => (i.zero, i.size, i.bytes)) = some (some (.agg #[.int .i64 0, .slice none 0 0]), 2, 32))

theorem rpeql27 {x y : Operand} {a : Addr} {w : World} : (sBin .eql 27 x y (.pointer (some a)) (.pointer none)).run Try.prog w = .ok (.value (.bool false)) w := by kernel_rfl
theorem rneql27 {x y : Operand} {w : World} : (sBin .eql 27 x y (.pointer none) (.pointer none)).run Try.prog w = .ok (.value (.bool true)) w := by kernel_rfl
theorem rpeql57 {x y : Operand} {a : Addr} {w : World} : (sBin .eql 57 x y (.pointer (some a)) (.pointer none)).run Try.prog w = .ok (.value (.bool false)) w := by kernel_rfl
theorem rneql57 {x y : Operand} {w : World} : (sBin .eql 57 x y (.pointer none) (.pointer none)).run Try.prog w = .ok (.value (.bool true)) w := by kernel_rfl
theorem rpneq27 {x y : Operand} {a : Addr} {w : World} : (sBin .neq 27 x y (.pointer (some a)) (.pointer none)).run Try.prog w = .ok (.value (.bool true)) w := by kernel_rfl
theorem rnneq27 {x y : Operand} {w : World} : (sBin .neq 27 x y (.pointer none) (.pointer none)).run Try.prog w = .ok (.value (.bool false)) w := by kernel_rfl
theorem rpneq57 {x y : Operand} {a : Addr} {w : World} : (sBin .neq 57 x y (.pointer (some a)) (.pointer none)).run Try.prog w = .ok (.value (.bool true)) w := by kernel_rfl
theorem rnneq57 {x y : Operand} {w : World} : (sBin .neq 57 x y (.pointer none) (.pointer none)).run Try.prog w = .ok (.value (.bool false)) w := by kernel_rfl
theorem rfa24_0 {a : Addr} {w : World} : (sFieldAddr 24 (.pointer (some a)) 0).run Try.prog w = .ok (.value (.pointer (some (a)))) w := by kernel_rfl
theorem rfa24_1 {a : Addr} {w : World} : (sFieldAddr 24 (.pointer (some a)) 1).run Try.prog w = .ok (.value (.pointer (some (a.add 1)))) w := by kernel_rfl
theorem rfa24_2 {a : Addr} {w : World} : (sFieldAddr 24 (.pointer (some a)) 2).run Try.prog w = .ok (.value (.pointer (some (a.add 2)))) w := by kernel_rfl
theorem rfa24_3 {a : Addr} {w : World} : (sFieldAddr 24 (.pointer (some a)) 3).run Try.prog w = .ok (.value (.pointer (some (a.add 3)))) w := by kernel_rfl
theorem rfa24_4 {a : Addr} {w : World} : (sFieldAddr 24 (.pointer (some a)) 4).run Try.prog w = .ok (.value (.pointer (some (a.add 4)))) w := by kernel_rfl
theorem rfa26_0 {a : Addr} {w : World} : (sFieldAddr 26 (.pointer (some a)) 0).run Try.prog w = .ok (.value (.pointer (some (a)))) w := by kernel_rfl
theorem rfa26_1 {a : Addr} {w : World} : (sFieldAddr 26 (.pointer (some a)) 1).run Try.prog w = .ok (.value (.pointer (some (a.add 1)))) w := by kernel_rfl
theorem rfa26_2 {a : Addr} {w : World} : (sFieldAddr 26 (.pointer (some a)) 2).run Try.prog w = .ok (.value (.pointer (some (a.add 2)))) w := by kernel_rfl
theorem rfa26_3 {a : Addr} {w : World} : (sFieldAddr 26 (.pointer (some a)) 3).run Try.prog w = .ok (.value (.pointer (some (a.add 7)))) w := by kernel_rfl
theorem rfa48_0 {a : Addr} {w : World} : (sFieldAddr 48 (.pointer (some a)) 0).run Try.prog w = .ok (.value (.pointer (some (a)))) w := by kernel_rfl
theorem rfa48_1 {a : Addr} {w : World} : (sFieldAddr 48 (.pointer (some a)) 1).run Try.prog w = .ok (.value (.pointer (some (a.add 1)))) w := by kernel_rfl
theorem rfa48_2 {a : Addr} {w : World} : (sFieldAddr 48 (.pointer (some a)) 2).run Try.prog w = .ok (.value (.pointer (some (a.add 2)))) w := by kernel_rfl
theorem rfa51_0 {a : Addr} {w : World} : (sFieldAddr 51 (.pointer (some a)) 0).run Try.prog w = .ok (.value (.pointer (some (a)))) w := by kernel_rfl
theorem rfa51_1 {a : Addr} {w : World} : (sFieldAddr 51 (.pointer (some a)) 1).run Try.prog w = .ok (.value (.pointer (some (a.add 1)))) w := by kernel_rfl
theorem rfa60_0 {a : Addr} {w : World} : (sFieldAddr 60 (.pointer (some a)) 0).run Try.prog w = .ok (.value (.pointer (some (a)))) w := by kernel_rfl
theorem rfa60_1 {a : Addr} {w : World} : (sFieldAddr 60 (.pointer (some a)) 1).run Try.prog w = .ok (.value (.pointer (some (a.add 1)))) w := by kernel_rfl
theorem rfa62_0 {a : Addr} {w : World} : (sFieldAddr 62 (.pointer (some a)) 0).run Try.prog w = .ok (.value (.pointer (some (a)))) w := by kernel_rfl
theorem rfa62_1 {a : Addr} {w : World} : (sFieldAddr 62 (.pointer (some a)) 1).run Try.prog w = .ok (.value (.pointer (some (a.add 1)))) w := by kernel_rfl
theorem rix22 {a : Addr} {n c i : Nat} {w : World} (h : i < n) : (sIndexAddr 22 (.slice (some a) n c) (.int .i64 (i : Nat))).run Try.prog w = .ok (.value (.pointer (some (a.add (i * 5))))) w := by
  have := run_idxS (P := Try.prog) (w := w) (a := a) (c := c) (q := .i64) (i := (i : Nat)) u22 sz24 (by omega) (show ((i : Nat) : Int) < n by omega)
  rw [show ((i : Nat) : Int).toNat * 5 = i * 5 by omega] at this
  exact this
theorem rix34 {a : Addr} {n c i : Nat} {w : World} (h : i < n) : (sIndexAddr 34 (.slice (some a) n c) (.int .i64 (i : Nat))).run Try.prog w = .ok (.value (.pointer (some (a.add (i))))) w := by
  have := run_idxS (P := Try.prog) (w := w) (a := a) (c := c) (q := .i64) (i := (i : Nat)) u34 sz5 (by omega) (show ((i : Nat) : Int) < n by omega)
  rw [show ((i : Nat) : Int).toNat * 1 = i by omega] at this
  exact this
theorem rxa49 {a : Addr} {i : Nat} {w : World} (h : i < 8) : (sIndexAddr 49 (.pointer (some a)) (.int .i64 (i : Nat))).run Try.prog w = .ok (.value (.pointer (some (a.add (i * 3))))) w := by
  have := run_idxA (P := Try.prog) (w := w) (a := a) (q := .i64) (i := (i : Nat)) u49 sz48 (by omega) (show ((i : Nat) : Int) < (8 : Nat) by omega)
  rw [show ((i : Nat) : Int).toNat * 3 = i * 3 by omega] at this
  exact this
theorem rxa58 {a : Addr} {i : Nat} {w : World} (h : i < 8) : (sIndexAddr 58 (.pointer (some a)) (.int .i64 (i : Nat))).run Try.prog w = .ok (.value (.pointer (some (a.add (i))))) w := by
  have := run_idxA (P := Try.prog) (w := w) (a := a) (q := .i64) (i := (i : Nat)) u58 sz57 (by omega) (show ((i : Nat) : Int) < (8 : Nat) by omega)
  rw [show ((i : Nat) : Int).toNat * 1 = i by omega] at this
  exact this
theorem ld22 {a : Addr} {v : Value} {w : World} {K : Value → World → Prop} (h : w.cell? a = some v) : (std Try.prog).step (sLoad 22 (.pointer (some a))) w K = K v w := step_run (run_sLoad (run_loadVar1 ag22 h))
theorem sld22 {a : Addr} {v : Value} {S : World → Prop} {k : Value → Prop} (hne : ∃ w, S w) (h : ∀ w, S w → w.cell? a = some v) : (std Try.prog).stepS S (sLoad 22 (.pointer (some a))) k = k v := stepS_run hne fun w hw => run_sLoad (run_loadVar1 ag22 (h w hw))
theorem ld27 {a : Addr} {v : Value} {w : World} {K : Value → World → Prop} (h : w.cell? a = some v) : (std Try.prog).step (sLoad 27 (.pointer (some a))) w K = K v w := step_run (run_sLoad (run_loadVar1 ag27 h))
theorem sld27 {a : Addr} {v : Value} {S : World → Prop} {k : Value → Prop} (hne : ∃ w, S w) (h : ∀ w, S w → w.cell? a = some v) : (std Try.prog).stepS S (sLoad 27 (.pointer (some a))) k = k v := stepS_run hne fun w hw => run_sLoad (run_loadVar1 ag27 (h w hw))
theorem ld3 {a : Addr} {v : Value} {w : World} {K : Value → World → Prop} (h : w.cell? a = some v) : (std Try.prog).step (sLoad 3 (.pointer (some a))) w K = K v w := step_run (run_sLoad (run_loadVar1 ag3 h))
theorem sld3 {a : Addr} {v : Value} {S : World → Prop} {k : Value → Prop} (hne : ∃ w, S w) (h : ∀ w, S w → w.cell? a = some v) : (std Try.prog).stepS S (sLoad 3 (.pointer (some a))) k = k v := stepS_run hne fun w hw => run_sLoad (run_loadVar1 ag3 (h w hw))
theorem ld34 {a : Addr} {v : Value} {w : World} {K : Value → World → Prop} (h : w.cell? a = some v) : (std Try.prog).step (sLoad 34 (.pointer (some a))) w K = K v w := step_run (run_sLoad (run_loadVar1 ag34 h))
theorem sld34 {a : Addr} {v : Value} {S : World → Prop} {k : Value → Prop} (hne : ∃ w, S w) (h : ∀ w, S w → w.cell? a = some v) : (std Try.prog).stepS S (sLoad 34 (.pointer (some a))) k = k v := stepS_run hne fun w hw => run_sLoad (run_loadVar1 ag34 (h w hw))
theorem ld4 {a : Addr} {v : Value} {w : World} {K : Value → World → Prop} (h : w.cell? a = some v) : (std Try.prog).step (sLoad 4 (.pointer (some a))) w K = K v w := step_run (run_sLoad (run_loadVar1 ag4 h))
theorem sld4 {a : Addr} {v : Value} {S : World → Prop} {k : Value → Prop} (hne : ∃ w, S w) (h : ∀ w, S w → w.cell? a = some v) : (std Try.prog).stepS S (sLoad 4 (.pointer (some a))) k = k v := stepS_run hne fun w hw => run_sLoad (run_loadVar1 ag4 (h w hw))
theorem ld5 {a : Addr} {v : Value} {w : World} {K : Value → World → Prop} (h : w.cell? a = some v) : (std Try.prog).step (sLoad 5 (.pointer (some a))) w K = K v w := step_run (run_sLoad (run_loadVar1 ag5 h))
theorem sld5 {a : Addr} {v : Value} {S : World → Prop} {k : Value → Prop} (hne : ∃ w, S w) (h : ∀ w, S w → w.cell? a = some v) : (std Try.prog).stepS S (sLoad 5 (.pointer (some a))) k = k v := stepS_run hne fun w hw => run_sLoad (run_loadVar1 ag5 (h w hw))
theorem ld57 {a : Addr} {v : Value} {w : World} {K : Value → World → Prop} (h : w.cell? a = some v) : (std Try.prog).step (sLoad 57 (.pointer (some a))) w K = K v w := step_run (run_sLoad (run_loadVar1 ag57 h))
theorem sld57 {a : Addr} {v : Value} {S : World → Prop} {k : Value → Prop} (hne : ∃ w, S w) (h : ∀ w, S w → w.cell? a = some v) : (std Try.prog).stepS S (sLoad 57 (.pointer (some a))) k = k v := stepS_run hne fun w hw => run_sLoad (run_loadVar1 ag57 (h w hw))
theorem ld9 {a : Addr} {v : Value} {w : World} {K : Value → World → Prop} (h : w.cell? a = some v) : (std Try.prog).step (sLoad 9 (.pointer (some a))) w K = K v w := step_run (run_sLoad (run_loadVar1 ag9 h))
theorem sld9 {a : Addr} {v : Value} {S : World → Prop} {k : Value → Prop} (hne : ∃ w, S w) (h : ∀ w, S w → w.cell? a = some v) : (std Try.prog).stepS S (sLoad 9 (.pointer (some a))) k = k v := stepS_run hne fun w hw => run_sLoad (run_loadVar1 ag9 (h w hw))
theorem px_add {t : TypeId} {x y : Operand} {q : IntKind} {a b : Int}  {w : World} {K : Value → World → Prop} : (std Try.prog).step (sBin .add t x y (.int q a) (.int q b)) w K = K (.int q (q.wrap (a + b))) w := step_run (r_add)
theorem sx_add {t : TypeId} {x y : Operand} {q : IntKind} {a b : Int}  {S : World → Prop} {k : Value → Prop} (hne : ∃ w, S w) : (std Try.prog).stepS S (sBin .add t x y (.int q a) (.int q b)) k = k (.int q (q.wrap (a + b))) := stepS_run hne fun _ _ => r_add
theorem px_sub {t : TypeId} {x y : Operand} {q : IntKind} {a b : Int}  {w : World} {K : Value → World → Prop} : (std Try.prog).step (sBin .sub t x y (.int q a) (.int q b)) w K = K (.int q (q.wrap (a - b))) w := step_run (r_sub)
theorem sx_sub {t : TypeId} {x y : Operand} {q : IntKind} {a b : Int}  {S : World → Prop} {k : Value → Prop} (hne : ∃ w, S w) : (std Try.prog).stepS S (sBin .sub t x y (.int q a) (.int q b)) k = k (.int q (q.wrap (a - b))) := stepS_run hne fun _ _ => r_sub
theorem px_mul {t : TypeId} {x y : Operand} {q : IntKind} {a b : Int}  {w : World} {K : Value → World → Prop} : (std Try.prog).step (sBin .mul t x y (.int q a) (.int q b)) w K = K (.int q (q.wrap (a * b))) w := step_run (r_mul)
theorem sx_mul {t : TypeId} {x y : Operand} {q : IntKind} {a b : Int}  {S : World → Prop} {k : Value → Prop} (hne : ∃ w, S w) : (std Try.prog).stepS S (sBin .mul t x y (.int q a) (.int q b)) k = k (.int q (q.wrap (a * b))) := stepS_run hne fun _ _ => r_mul
theorem px_and {t : TypeId} {x y : Operand} {q : IntKind} {a b : Int}  {w : World} {K : Value → World → Prop} : (std Try.prog).step (sBin .and t x y (.int q a) (.int q b)) w K = K (.int q (bitOp .and q a b)) w := step_run (r_and)
theorem sx_and {t : TypeId} {x y : Operand} {q : IntKind} {a b : Int}  {S : World → Prop} {k : Value → Prop} (hne : ∃ w, S w) : (std Try.prog).stepS S (sBin .and t x y (.int q a) (.int q b)) k = k (.int q (bitOp .and q a b)) := stepS_run hne fun _ _ => r_and
theorem px_or {t : TypeId} {x y : Operand} {q : IntKind} {a b : Int}  {w : World} {K : Value → World → Prop} : (std Try.prog).step (sBin .or t x y (.int q a) (.int q b)) w K = K (.int q (bitOp .or q a b)) w := step_run (r_or)
theorem sx_or {t : TypeId} {x y : Operand} {q : IntKind} {a b : Int}  {S : World → Prop} {k : Value → Prop} (hne : ∃ w, S w) : (std Try.prog).stepS S (sBin .or t x y (.int q a) (.int q b)) k = k (.int q (bitOp .or q a b)) := stepS_run hne fun _ _ => r_or
theorem px_xor {t : TypeId} {x y : Operand} {q : IntKind} {a b : Int}  {w : World} {K : Value → World → Prop} : (std Try.prog).step (sBin .xor t x y (.int q a) (.int q b)) w K = K (.int q (bitOp .xor q a b)) w := step_run (r_xor)
theorem sx_xor {t : TypeId} {x y : Operand} {q : IntKind} {a b : Int}  {S : World → Prop} {k : Value → Prop} (hne : ∃ w, S w) : (std Try.prog).stepS S (sBin .xor t x y (.int q a) (.int q b)) k = k (.int q (bitOp .xor q a b)) := stepS_run hne fun _ _ => r_xor
theorem px_lss {t : TypeId} {x y : Operand} {q : IntKind} {a b : Int}  {w : World} {K : Value → World → Prop} : (std Try.prog).step (sBin .lss t x y (.int q a) (.int q b)) w K = K (.bool (decide (a < b))) w := step_run (r_lss)
theorem sx_lss {t : TypeId} {x y : Operand} {q : IntKind} {a b : Int}  {S : World → Prop} {k : Value → Prop} (hne : ∃ w, S w) : (std Try.prog).stepS S (sBin .lss t x y (.int q a) (.int q b)) k = k (.bool (decide (a < b))) := stepS_run hne fun _ _ => r_lss
theorem px_leq {t : TypeId} {x y : Operand} {q : IntKind} {a b : Int}  {w : World} {K : Value → World → Prop} : (std Try.prog).step (sBin .leq t x y (.int q a) (.int q b)) w K = K (.bool (decide (a ≤ b))) w := step_run (r_leq)
theorem sx_leq {t : TypeId} {x y : Operand} {q : IntKind} {a b : Int}  {S : World → Prop} {k : Value → Prop} (hne : ∃ w, S w) : (std Try.prog).stepS S (sBin .leq t x y (.int q a) (.int q b)) k = k (.bool (decide (a ≤ b))) := stepS_run hne fun _ _ => r_leq
theorem px_gtr {t : TypeId} {x y : Operand} {q : IntKind} {a b : Int}  {w : World} {K : Value → World → Prop} : (std Try.prog).step (sBin .gtr t x y (.int q a) (.int q b)) w K = K (.bool (decide (b < a))) w := step_run (r_gtr)
theorem sx_gtr {t : TypeId} {x y : Operand} {q : IntKind} {a b : Int}  {S : World → Prop} {k : Value → Prop} (hne : ∃ w, S w) : (std Try.prog).stepS S (sBin .gtr t x y (.int q a) (.int q b)) k = k (.bool (decide (b < a))) := stepS_run hne fun _ _ => r_gtr
theorem px_geq {t : TypeId} {x y : Operand} {q : IntKind} {a b : Int}  {w : World} {K : Value → World → Prop} : (std Try.prog).step (sBin .geq t x y (.int q a) (.int q b)) w K = K (.bool (decide (b ≤ a))) w := step_run (r_geq)
theorem sx_geq {t : TypeId} {x y : Operand} {q : IntKind} {a b : Int}  {S : World → Prop} {k : Value → Prop} (hne : ∃ w, S w) : (std Try.prog).stepS S (sBin .geq t x y (.int q a) (.int q b)) k = k (.bool (decide (b ≤ a))) := stepS_run hne fun _ _ => r_geq
theorem px_eql {t : TypeId} {x y : Operand} {q : IntKind} {a b : Int}  {w : World} {K : Value → World → Prop} : (std Try.prog).step (sBin .eql t x y (.int q a) (.int q b)) w K = K (.bool (decide (a = b))) w := step_run (r_eql)
theorem sx_eql {t : TypeId} {x y : Operand} {q : IntKind} {a b : Int}  {S : World → Prop} {k : Value → Prop} (hne : ∃ w, S w) : (std Try.prog).stepS S (sBin .eql t x y (.int q a) (.int q b)) k = k (.bool (decide (a = b))) := stepS_run hne fun _ _ => r_eql
theorem px_neq {t : TypeId} {x y : Operand} {q : IntKind} {a b : Int}  {w : World} {K : Value → World → Prop} : (std Try.prog).step (sBin .neq t x y (.int q a) (.int q b)) w K = K (.bool (decide (a ≠ b))) w := step_run (r_neq)
theorem sx_neq {t : TypeId} {x y : Operand} {q : IntKind} {a b : Int}  {S : World → Prop} {k : Value → Prop} (hne : ∃ w, S w) : (std Try.prog).stepS S (sBin .neq t x y (.int q a) (.int q b)) k = k (.bool (decide (a ≠ b))) := stepS_run hne fun _ _ => r_neq
theorem px_quo {t : TypeId} {x y : Operand} {q : IntKind} {a b : Int} (h : b ≠ 0) {w : World} {K : Value → World → Prop} : (std Try.prog).step (sBin .quo t x y (.int q a) (.int q b)) w K = K (.int q (q.wrap (a.tdiv b))) w := step_run (r_quo h)
theorem sx_quo {t : TypeId} {x y : Operand} {q : IntKind} {a b : Int} (h : b ≠ 0) {S : World → Prop} {k : Value → Prop} (hne : ∃ w, S w) : (std Try.prog).stepS S (sBin .quo t x y (.int q a) (.int q b)) k = k (.int q (q.wrap (a.tdiv b))) := stepS_run hne fun _ _ => r_quo h
theorem px_rem {t : TypeId} {x y : Operand} {q : IntKind} {a b : Int} (h : b ≠ 0) {w : World} {K : Value → World → Prop} : (std Try.prog).step (sBin .rem t x y (.int q a) (.int q b)) w K = K (.int q (a.tmod b)) w := step_run (r_rem h)
theorem sx_rem {t : TypeId} {x y : Operand} {q : IntKind} {a b : Int} (h : b ≠ 0) {S : World → Prop} {k : Value → Prop} (hne : ∃ w, S w) : (std Try.prog).stepS S (sBin .rem t x y (.int q a) (.int q b)) k = k (.int q (a.tmod b)) := stepS_run hne fun _ _ => r_rem h
theorem px_shl {t : TypeId} {x y : Operand} {q q' : IntKind} {a b : Int} (h : ¬ b < 0) {w : World} {K : Value → World → Prop} : (std Try.prog).step (sBin .shl t x y (.int q a) (.int q' b)) w K = K (.int q (q.wrap (a * 2 ^ (min b.toNat q.bits)))) w := step_run (r_shl h)
theorem sx_shl {t : TypeId} {x y : Operand} {q q' : IntKind} {a b : Int} (h : ¬ b < 0) {S : World → Prop} {k : Value → Prop} (hne : ∃ w, S w) : (std Try.prog).stepS S (sBin .shl t x y (.int q a) (.int q' b)) k = k (.int q (q.wrap (a * 2 ^ (min b.toNat q.bits)))) := stepS_run hne fun _ _ => r_shl h
theorem px_shr {t : TypeId} {x y : Operand} {q q' : IntKind} {a b : Int} (h : ¬ b < 0) {w : World} {K : Value → World → Prop} : (std Try.prog).step (sBin .shr t x y (.int q a) (.int q' b)) w K = K (.int q (a.fdiv (2 ^ (min b.toNat q.bits)))) w := step_run (r_shr h)
theorem sx_shr {t : TypeId} {x y : Operand} {q q' : IntKind} {a b : Int} (h : ¬ b < 0) {S : World → Prop} {k : Value → Prop} (hne : ∃ w, S w) : (std Try.prog).stepS S (sBin .shr t x y (.int q a) (.int q' b)) k = k (.int q (a.fdiv (2 ^ (min b.toNat q.bits)))) := stepS_run hne fun _ _ => r_shr h
theorem px_seql {t : TypeId} {x y : Operand} {a b : ByteArray}  {w : World} {K : Value → World → Prop} : (std Try.prog).step (sBin .eql t x y (.string a) (.string b)) w K = K (.bool (decide (a = b))) w := step_run (r_seql)
theorem sx_seql {t : TypeId} {x y : Operand} {a b : ByteArray}  {S : World → Prop} {k : Value → Prop} (hne : ∃ w, S w) : (std Try.prog).stepS S (sBin .eql t x y (.string a) (.string b)) k = k (.bool (decide (a = b))) := stepS_run hne fun _ _ => r_seql
theorem px_sneq {t : TypeId} {x y : Operand} {a b : ByteArray}  {w : World} {K : Value → World → Prop} : (std Try.prog).step (sBin .neq t x y (.string a) (.string b)) w K = K (.bool (!decide (a = b))) w := step_run (r_sneq)
theorem sx_sneq {t : TypeId} {x y : Operand} {a b : ByteArray}  {S : World → Prop} {k : Value → Prop} (hne : ∃ w, S w) : (std Try.prog).stepS S (sBin .neq t x y (.string a) (.string b)) k = k (.bool (!decide (a = b))) := stepS_run hne fun _ _ => r_sneq
theorem px_sadd {t : TypeId} {x y : Operand} {a b : ByteArray} (h : a.size + b.size ≤ 9223372036854775807) {w : World} {K : Value → World → Prop} : (std Try.prog).step (sBin .add t x y (.string a) (.string b)) w K = K (.string (a ++ b)) w := step_run (r_sadd h)
theorem sx_sadd {t : TypeId} {x y : Operand} {a b : ByteArray} (h : a.size + b.size ≤ 9223372036854775807) {S : World → Prop} {k : Value → Prop} (hne : ∃ w, S w) : (std Try.prog).stepS S (sBin .add t x y (.string a) (.string b)) k = k (.string (a ++ b)) := stepS_run hne fun _ _ => r_sadd h
theorem px_not {b : Bool}  {w : World} {K : Value → World → Prop} : (std Try.prog).step (sUn .not (.bool b)) w K = K (.bool (!b)) w := step_run (r_not)
theorem sx_not {b : Bool}  {S : World → Prop} {k : Value → Prop} (hne : ∃ w, S w) : (std Try.prog).stepS S (sUn .not (.bool b)) k = k (.bool (!b)) := stepS_run hne fun _ _ => r_not
theorem px_neg {q : IntKind} {a : Int}  {w : World} {K : Value → World → Prop} : (std Try.prog).step (sUn .neg (.int q a)) w K = K (.int q (q.wrap (0 - a))) w := step_run (r_neg)
theorem sx_neg {q : IntKind} {a : Int}  {S : World → Prop} {k : Value → Prop} (hne : ∃ w, S w) : (std Try.prog).stepS S (sUn .neg (.int q a)) k = k (.int q (q.wrap (0 - a))) := stepS_run hne fun _ _ => r_neg
theorem px_inv {q : IntKind} {a : Int}  {w : World} {K : Value → World → Prop} : (std Try.prog).step (sUn .xor (.int q a)) w K = K (.int q (bitOp .xor q (if q.signed then -1 else q.max) a)) w := step_run (r_inv)
theorem sx_inv {q : IntKind} {a : Int}  {S : World → Prop} {k : Value → Prop} (hne : ∃ w, S w) : (std Try.prog).stepS S (sUn .xor (.int q a)) k = k (.int q (bitOp .xor q (if q.signed then -1 else q.max) a)) := stepS_run hne fun _ _ => r_inv
theorem px_nilc {a : Addr}  {w : World} {K : Value → World → Prop} : (std Try.prog).step (sNil (.pointer (some a))) w K = K (.pointer (some a)) w := step_run (r_nil)
theorem sx_nilc {a : Addr}  {S : World → Prop} {k : Value → Prop} (hne : ∃ w, S w) : (std Try.prog).stepS S (sNil (.pointer (some a))) k = k (.pointer (some a)) := stepS_run hne fun _ _ => r_nil
theorem px_ext20 {a b : Value}  {w : World} {K : Value → World → Prop} : (std Try.prog).step (sExtract (.tuple #[a, b]) 0) w K = K (a) w := step_run (r_ext20)
theorem sx_ext20 {a b : Value}  {S : World → Prop} {k : Value → Prop} (hne : ∃ w, S w) : (std Try.prog).stepS S (sExtract (.tuple #[a, b]) 0) k = k (a) := stepS_run hne fun _ _ => r_ext20
theorem px_ext21 {a b : Value}  {w : World} {K : Value → World → Prop} : (std Try.prog).step (sExtract (.tuple #[a, b]) 1) w K = K (b) w := step_run (r_ext21)
theorem sx_ext21 {a b : Value}  {S : World → Prop} {k : Value → Prop} (hne : ∃ w, S w) : (std Try.prog).stepS S (sExtract (.tuple #[a, b]) 1) k = k (b) := stepS_run hne fun _ _ => r_ext21
theorem px_ext30 {a b c : Value}  {w : World} {K : Value → World → Prop} : (std Try.prog).step (sExtract (.tuple #[a, b, c]) 0) w K = K (a) w := step_run (r_ext30)
theorem sx_ext30 {a b c : Value}  {S : World → Prop} {k : Value → Prop} (hne : ∃ w, S w) : (std Try.prog).stepS S (sExtract (.tuple #[a, b, c]) 0) k = k (a) := stepS_run hne fun _ _ => r_ext30
theorem px_ext31 {a b c : Value}  {w : World} {K : Value → World → Prop} : (std Try.prog).step (sExtract (.tuple #[a, b, c]) 1) w K = K (b) w := step_run (r_ext31)
theorem sx_ext31 {a b c : Value}  {S : World → Prop} {k : Value → Prop} (hne : ∃ w, S w) : (std Try.prog).stepS S (sExtract (.tuple #[a, b, c]) 1) k = k (b) := stepS_run hne fun _ _ => r_ext31
theorem px_ext32 {a b c : Value}  {w : World} {K : Value → World → Prop} : (std Try.prog).step (sExtract (.tuple #[a, b, c]) 2) w K = K (c) w := step_run (r_ext32)
theorem sx_ext32 {a b c : Value}  {S : World → Prop} {k : Value → Prop} (hne : ∃ w, S w) : (std Try.prog).stepS S (sExtract (.tuple #[a, b, c]) 2) k = k (c) := stepS_run hne fun _ _ => r_ext32
theorem px_min {ats : Array TypeId} {ty : TypeId} {c : List Bool} {q : IntKind} {a b : Int}  {w : World} {K : Value → World → Prop} : (std Try.prog).step (sBuiltin .min ats ty c [.int q a, .int q b]) w K = K (.int q (if b < a then b else a)) w := step_run (r_min)
theorem sx_min {ats : Array TypeId} {ty : TypeId} {c : List Bool} {q : IntKind} {a b : Int}  {S : World → Prop} {k : Value → Prop} (hne : ∃ w, S w) : (std Try.prog).stepS S (sBuiltin .min ats ty c [.int q a, .int q b]) k = k (.int q (if b < a then b else a)) := stepS_run hne fun _ _ => r_min
theorem px_max {ats : Array TypeId} {ty : TypeId} {c : List Bool} {q : IntKind} {a b : Int}  {w : World} {K : Value → World → Prop} : (std Try.prog).step (sBuiltin .max ats ty c [.int q a, .int q b]) w K = K (.int q (if a < b then b else a)) w := step_run (r_max)
theorem sx_max {ats : Array TypeId} {ty : TypeId} {c : List Bool} {q : IntKind} {a b : Int}  {S : World → Prop} {k : Value → Prop} (hne : ∃ w, S w) : (std Try.prog).stepS S (sBuiltin .max ats ty c [.int q a, .int q b]) k = k (.int q (if a < b then b else a)) := stepS_run hne fun _ _ => r_max
theorem px_peql27 {x y : Operand} {a : Addr}  {w : World} {K : Value → World → Prop} : (std Try.prog).step (sBin .eql 27 x y (.pointer (some a)) (.pointer none)) w K = K (.bool false) w := step_run (rpeql27)
theorem sx_peql27 {x y : Operand} {a : Addr}  {S : World → Prop} {k : Value → Prop} (hne : ∃ w, S w) : (std Try.prog).stepS S (sBin .eql 27 x y (.pointer (some a)) (.pointer none)) k = k (.bool false) := stepS_run hne fun _ _ => rpeql27
theorem px_neql27 {x y : Operand}  {w : World} {K : Value → World → Prop} : (std Try.prog).step (sBin .eql 27 x y (.pointer none) (.pointer none)) w K = K (.bool true) w := step_run (rneql27)
theorem sx_neql27 {x y : Operand}  {S : World → Prop} {k : Value → Prop} (hne : ∃ w, S w) : (std Try.prog).stepS S (sBin .eql 27 x y (.pointer none) (.pointer none)) k = k (.bool true) := stepS_run hne fun _ _ => rneql27
theorem px_peql57 {x y : Operand} {a : Addr}  {w : World} {K : Value → World → Prop} : (std Try.prog).step (sBin .eql 57 x y (.pointer (some a)) (.pointer none)) w K = K (.bool false) w := step_run (rpeql57)
theorem sx_peql57 {x y : Operand} {a : Addr}  {S : World → Prop} {k : Value → Prop} (hne : ∃ w, S w) : (std Try.prog).stepS S (sBin .eql 57 x y (.pointer (some a)) (.pointer none)) k = k (.bool false) := stepS_run hne fun _ _ => rpeql57
theorem px_neql57 {x y : Operand}  {w : World} {K : Value → World → Prop} : (std Try.prog).step (sBin .eql 57 x y (.pointer none) (.pointer none)) w K = K (.bool true) w := step_run (rneql57)
theorem sx_neql57 {x y : Operand}  {S : World → Prop} {k : Value → Prop} (hne : ∃ w, S w) : (std Try.prog).stepS S (sBin .eql 57 x y (.pointer none) (.pointer none)) k = k (.bool true) := stepS_run hne fun _ _ => rneql57
theorem px_pneq27 {x y : Operand} {a : Addr}  {w : World} {K : Value → World → Prop} : (std Try.prog).step (sBin .neq 27 x y (.pointer (some a)) (.pointer none)) w K = K (.bool true) w := step_run (rpneq27)
theorem sx_pneq27 {x y : Operand} {a : Addr}  {S : World → Prop} {k : Value → Prop} (hne : ∃ w, S w) : (std Try.prog).stepS S (sBin .neq 27 x y (.pointer (some a)) (.pointer none)) k = k (.bool true) := stepS_run hne fun _ _ => rpneq27
theorem px_nneq27 {x y : Operand}  {w : World} {K : Value → World → Prop} : (std Try.prog).step (sBin .neq 27 x y (.pointer none) (.pointer none)) w K = K (.bool false) w := step_run (rnneq27)
theorem sx_nneq27 {x y : Operand}  {S : World → Prop} {k : Value → Prop} (hne : ∃ w, S w) : (std Try.prog).stepS S (sBin .neq 27 x y (.pointer none) (.pointer none)) k = k (.bool false) := stepS_run hne fun _ _ => rnneq27
theorem px_bneq4 {x y : Operand} {a b : Bool}  {w : World} {K : Value → World → Prop} : (std Try.prog).step (sBin .neq 4 x y (.bool a) (.bool b)) w K = K (.bool (!(a == b))) w := step_run (r_bneq u4)
theorem sx_bneq4 {x y : Operand} {a b : Bool}  {S : World → Prop} {k : Value → Prop} (hne : ∃ w, S w) : (std Try.prog).stepS S (sBin .neq 4 x y (.bool a) (.bool b)) k = k (.bool (!(a == b))) := stepS_run hne fun _ _ => r_bneq u4
theorem px_pneq57 {x y : Operand} {a : Addr}  {w : World} {K : Value → World → Prop} : (std Try.prog).step (sBin .neq 57 x y (.pointer (some a)) (.pointer none)) w K = K (.bool true) w := step_run (rpneq57)
theorem sx_pneq57 {x y : Operand} {a : Addr}  {S : World → Prop} {k : Value → Prop} (hne : ∃ w, S w) : (std Try.prog).stepS S (sBin .neq 57 x y (.pointer (some a)) (.pointer none)) k = k (.bool true) := stepS_run hne fun _ _ => rpneq57
theorem px_nneq57 {x y : Operand}  {w : World} {K : Value → World → Prop} : (std Try.prog).step (sBin .neq 57 x y (.pointer none) (.pointer none)) w K = K (.bool false) w := step_run (rnneq57)
theorem sx_nneq57 {x y : Operand}  {S : World → Prop} {k : Value → Prop} (hne : ∃ w, S w) : (std Try.prog).stepS S (sBin .neq 57 x y (.pointer none) (.pointer none)) k = k (.bool false) := stepS_run hne fun _ _ => rnneq57
theorem px_len22 {ty : TypeId} {c : List Bool} {A : Option Addr} {n m : Nat}  {w : World} {K : Value → World → Prop} : (std Try.prog).step (sBuiltin .len #[22] ty c [.slice A n m]) w K = K (.int .i64 n) w := step_run (r_lens u22)
theorem sx_len22 {ty : TypeId} {c : List Bool} {A : Option Addr} {n m : Nat}  {S : World → Prop} {k : Value → Prop} (hne : ∃ w, S w) : (std Try.prog).stepS S (sBuiltin .len #[22] ty c [.slice A n m]) k = k (.int .i64 n) := stepS_run hne fun _ _ => r_lens u22
theorem px_len34 {ty : TypeId} {c : List Bool} {A : Option Addr} {n m : Nat}  {w : World} {K : Value → World → Prop} : (std Try.prog).step (sBuiltin .len #[34] ty c [.slice A n m]) w K = K (.int .i64 n) w := step_run (r_lens u34)
theorem sx_len34 {ty : TypeId} {c : List Bool} {A : Option Addr} {n m : Nat}  {S : World → Prop} {k : Value → Prop} (hne : ∃ w, S w) : (std Try.prog).stepS S (sBuiltin .len #[34] ty c [.slice A n m]) k = k (.int .i64 n) := stepS_run hne fun _ _ => r_lens u34
theorem px_len9 {ty : TypeId} {c : List Bool} {s : ByteArray}  {w : World} {K : Value → World → Prop} : (std Try.prog).step (sBuiltin .len #[9] ty c [.string s]) w K = K (.int .i64 s.size) w := step_run (r_lenstr u9)
theorem sx_len9 {ty : TypeId} {c : List Bool} {s : ByteArray}  {S : World → Prop} {k : Value → Prop} (hne : ∃ w, S w) : (std Try.prog).stepS S (sBuiltin .len #[9] ty c [.string s]) k = k (.int .i64 s.size) := stepS_run hne fun _ _ => r_lenstr u9
theorem px_fa24_0 {a : Addr}  {w : World} {K : Value → World → Prop} : (std Try.prog).step (sFieldAddr 24 (.pointer (some a)) 0) w K = K (.pointer (some (a))) w := step_run (rfa24_0)
theorem sx_fa24_0 {a : Addr}  {S : World → Prop} {k : Value → Prop} (hne : ∃ w, S w) : (std Try.prog).stepS S (sFieldAddr 24 (.pointer (some a)) 0) k = k (.pointer (some (a))) := stepS_run hne fun _ _ => rfa24_0
theorem px_fa24_1 {a : Addr}  {w : World} {K : Value → World → Prop} : (std Try.prog).step (sFieldAddr 24 (.pointer (some a)) 1) w K = K (.pointer (some (a.add 1))) w := step_run (rfa24_1)
theorem sx_fa24_1 {a : Addr}  {S : World → Prop} {k : Value → Prop} (hne : ∃ w, S w) : (std Try.prog).stepS S (sFieldAddr 24 (.pointer (some a)) 1) k = k (.pointer (some (a.add 1))) := stepS_run hne fun _ _ => rfa24_1
theorem px_fa24_2 {a : Addr}  {w : World} {K : Value → World → Prop} : (std Try.prog).step (sFieldAddr 24 (.pointer (some a)) 2) w K = K (.pointer (some (a.add 2))) w := step_run (rfa24_2)
theorem sx_fa24_2 {a : Addr}  {S : World → Prop} {k : Value → Prop} (hne : ∃ w, S w) : (std Try.prog).stepS S (sFieldAddr 24 (.pointer (some a)) 2) k = k (.pointer (some (a.add 2))) := stepS_run hne fun _ _ => rfa24_2
theorem px_fa24_3 {a : Addr}  {w : World} {K : Value → World → Prop} : (std Try.prog).step (sFieldAddr 24 (.pointer (some a)) 3) w K = K (.pointer (some (a.add 3))) w := step_run (rfa24_3)
theorem sx_fa24_3 {a : Addr}  {S : World → Prop} {k : Value → Prop} (hne : ∃ w, S w) : (std Try.prog).stepS S (sFieldAddr 24 (.pointer (some a)) 3) k = k (.pointer (some (a.add 3))) := stepS_run hne fun _ _ => rfa24_3
theorem px_fa24_4 {a : Addr}  {w : World} {K : Value → World → Prop} : (std Try.prog).step (sFieldAddr 24 (.pointer (some a)) 4) w K = K (.pointer (some (a.add 4))) w := step_run (rfa24_4)
theorem sx_fa24_4 {a : Addr}  {S : World → Prop} {k : Value → Prop} (hne : ∃ w, S w) : (std Try.prog).stepS S (sFieldAddr 24 (.pointer (some a)) 4) k = k (.pointer (some (a.add 4))) := stepS_run hne fun _ _ => rfa24_4
theorem px_fa26_0 {a : Addr}  {w : World} {K : Value → World → Prop} : (std Try.prog).step (sFieldAddr 26 (.pointer (some a)) 0) w K = K (.pointer (some (a))) w := step_run (rfa26_0)
theorem sx_fa26_0 {a : Addr}  {S : World → Prop} {k : Value → Prop} (hne : ∃ w, S w) : (std Try.prog).stepS S (sFieldAddr 26 (.pointer (some a)) 0) k = k (.pointer (some (a))) := stepS_run hne fun _ _ => rfa26_0
theorem px_fa26_1 {a : Addr}  {w : World} {K : Value → World → Prop} : (std Try.prog).step (sFieldAddr 26 (.pointer (some a)) 1) w K = K (.pointer (some (a.add 1))) w := step_run (rfa26_1)
theorem sx_fa26_1 {a : Addr}  {S : World → Prop} {k : Value → Prop} (hne : ∃ w, S w) : (std Try.prog).stepS S (sFieldAddr 26 (.pointer (some a)) 1) k = k (.pointer (some (a.add 1))) := stepS_run hne fun _ _ => rfa26_1
theorem px_fa26_2 {a : Addr}  {w : World} {K : Value → World → Prop} : (std Try.prog).step (sFieldAddr 26 (.pointer (some a)) 2) w K = K (.pointer (some (a.add 2))) w := step_run (rfa26_2)
theorem sx_fa26_2 {a : Addr}  {S : World → Prop} {k : Value → Prop} (hne : ∃ w, S w) : (std Try.prog).stepS S (sFieldAddr 26 (.pointer (some a)) 2) k = k (.pointer (some (a.add 2))) := stepS_run hne fun _ _ => rfa26_2
theorem px_fa26_3 {a : Addr}  {w : World} {K : Value → World → Prop} : (std Try.prog).step (sFieldAddr 26 (.pointer (some a)) 3) w K = K (.pointer (some (a.add 7))) w := step_run (rfa26_3)
theorem sx_fa26_3 {a : Addr}  {S : World → Prop} {k : Value → Prop} (hne : ∃ w, S w) : (std Try.prog).stepS S (sFieldAddr 26 (.pointer (some a)) 3) k = k (.pointer (some (a.add 7))) := stepS_run hne fun _ _ => rfa26_3
theorem px_fa48_0 {a : Addr}  {w : World} {K : Value → World → Prop} : (std Try.prog).step (sFieldAddr 48 (.pointer (some a)) 0) w K = K (.pointer (some (a))) w := step_run (rfa48_0)
theorem sx_fa48_0 {a : Addr}  {S : World → Prop} {k : Value → Prop} (hne : ∃ w, S w) : (std Try.prog).stepS S (sFieldAddr 48 (.pointer (some a)) 0) k = k (.pointer (some (a))) := stepS_run hne fun _ _ => rfa48_0
theorem px_fa48_1 {a : Addr}  {w : World} {K : Value → World → Prop} : (std Try.prog).step (sFieldAddr 48 (.pointer (some a)) 1) w K = K (.pointer (some (a.add 1))) w := step_run (rfa48_1)
theorem sx_fa48_1 {a : Addr}  {S : World → Prop} {k : Value → Prop} (hne : ∃ w, S w) : (std Try.prog).stepS S (sFieldAddr 48 (.pointer (some a)) 1) k = k (.pointer (some (a.add 1))) := stepS_run hne fun _ _ => rfa48_1
theorem px_fa48_2 {a : Addr}  {w : World} {K : Value → World → Prop} : (std Try.prog).step (sFieldAddr 48 (.pointer (some a)) 2) w K = K (.pointer (some (a.add 2))) w := step_run (rfa48_2)
theorem sx_fa48_2 {a : Addr}  {S : World → Prop} {k : Value → Prop} (hne : ∃ w, S w) : (std Try.prog).stepS S (sFieldAddr 48 (.pointer (some a)) 2) k = k (.pointer (some (a.add 2))) := stepS_run hne fun _ _ => rfa48_2
theorem px_fa51_0 {a : Addr}  {w : World} {K : Value → World → Prop} : (std Try.prog).step (sFieldAddr 51 (.pointer (some a)) 0) w K = K (.pointer (some (a))) w := step_run (rfa51_0)
theorem sx_fa51_0 {a : Addr}  {S : World → Prop} {k : Value → Prop} (hne : ∃ w, S w) : (std Try.prog).stepS S (sFieldAddr 51 (.pointer (some a)) 0) k = k (.pointer (some (a))) := stepS_run hne fun _ _ => rfa51_0
theorem px_fa51_1 {a : Addr}  {w : World} {K : Value → World → Prop} : (std Try.prog).step (sFieldAddr 51 (.pointer (some a)) 1) w K = K (.pointer (some (a.add 1))) w := step_run (rfa51_1)
theorem sx_fa51_1 {a : Addr}  {S : World → Prop} {k : Value → Prop} (hne : ∃ w, S w) : (std Try.prog).stepS S (sFieldAddr 51 (.pointer (some a)) 1) k = k (.pointer (some (a.add 1))) := stepS_run hne fun _ _ => rfa51_1
theorem px_fa60_0 {a : Addr}  {w : World} {K : Value → World → Prop} : (std Try.prog).step (sFieldAddr 60 (.pointer (some a)) 0) w K = K (.pointer (some (a))) w := step_run (rfa60_0)
theorem sx_fa60_0 {a : Addr}  {S : World → Prop} {k : Value → Prop} (hne : ∃ w, S w) : (std Try.prog).stepS S (sFieldAddr 60 (.pointer (some a)) 0) k = k (.pointer (some (a))) := stepS_run hne fun _ _ => rfa60_0
theorem px_fa60_1 {a : Addr}  {w : World} {K : Value → World → Prop} : (std Try.prog).step (sFieldAddr 60 (.pointer (some a)) 1) w K = K (.pointer (some (a.add 1))) w := step_run (rfa60_1)
theorem sx_fa60_1 {a : Addr}  {S : World → Prop} {k : Value → Prop} (hne : ∃ w, S w) : (std Try.prog).stepS S (sFieldAddr 60 (.pointer (some a)) 1) k = k (.pointer (some (a.add 1))) := stepS_run hne fun _ _ => rfa60_1
theorem px_fa62_0 {a : Addr}  {w : World} {K : Value → World → Prop} : (std Try.prog).step (sFieldAddr 62 (.pointer (some a)) 0) w K = K (.pointer (some (a))) w := step_run (rfa62_0)
theorem sx_fa62_0 {a : Addr}  {S : World → Prop} {k : Value → Prop} (hne : ∃ w, S w) : (std Try.prog).stepS S (sFieldAddr 62 (.pointer (some a)) 0) k = k (.pointer (some (a))) := stepS_run hne fun _ _ => rfa62_0
theorem px_fa62_1 {a : Addr}  {w : World} {K : Value → World → Prop} : (std Try.prog).step (sFieldAddr 62 (.pointer (some a)) 1) w K = K (.pointer (some (a.add 1))) w := step_run (rfa62_1)
theorem sx_fa62_1 {a : Addr}  {S : World → Prop} {k : Value → Prop} (hne : ∃ w, S w) : (std Try.prog).stepS S (sFieldAddr 62 (.pointer (some a)) 1) k = k (.pointer (some (a.add 1))) := stepS_run hne fun _ _ => rfa62_1
theorem px_ix22 {a : Addr} {n c i : Nat} (h : i < n) {w : World} {K : Value → World → Prop} : (std Try.prog).step (sIndexAddr 22 (.slice (some a) n c) (.int .i64 (i : Nat))) w K = K (.pointer (some (a.add (i * 5)))) w := step_run (rix22 h)
theorem sx_ix22 {a : Addr} {n c i : Nat} (h : i < n) {S : World → Prop} {k : Value → Prop} (hne : ∃ w, S w) : (std Try.prog).stepS S (sIndexAddr 22 (.slice (some a) n c) (.int .i64 (i : Nat))) k = k (.pointer (some (a.add (i * 5)))) := stepS_run hne fun _ _ => rix22 h
theorem px_ix34 {a : Addr} {n c i : Nat} (h : i < n) {w : World} {K : Value → World → Prop} : (std Try.prog).step (sIndexAddr 34 (.slice (some a) n c) (.int .i64 (i : Nat))) w K = K (.pointer (some (a.add (i)))) w := step_run (rix34 h)
theorem sx_ix34 {a : Addr} {n c i : Nat} (h : i < n) {S : World → Prop} {k : Value → Prop} (hne : ∃ w, S w) : (std Try.prog).stepS S (sIndexAddr 34 (.slice (some a) n c) (.int .i64 (i : Nat))) k = k (.pointer (some (a.add (i)))) := stepS_run hne fun _ _ => rix34 h
theorem px_xa49 {a : Addr} {i : Nat} (h : i < 8) {w : World} {K : Value → World → Prop} : (std Try.prog).step (sIndexAddr 49 (.pointer (some a)) (.int .i64 (i : Nat))) w K = K (.pointer (some (a.add (i * 3)))) w := step_run (rxa49 h)
theorem sx_xa49 {a : Addr} {i : Nat} (h : i < 8) {S : World → Prop} {k : Value → Prop} (hne : ∃ w, S w) : (std Try.prog).stepS S (sIndexAddr 49 (.pointer (some a)) (.int .i64 (i : Nat))) k = k (.pointer (some (a.add (i * 3)))) := stepS_run hne fun _ _ => rxa49 h
theorem px_xa58 {a : Addr} {i : Nat} (h : i < 8) {w : World} {K : Value → World → Prop} : (std Try.prog).step (sIndexAddr 58 (.pointer (some a)) (.int .i64 (i : Nat))) w K = K (.pointer (some (a.add (i)))) w := step_run (rxa58 h)
theorem sx_xa58 {a : Addr} {i : Nat} (h : i < 8) {S : World → Prop} {k : Value → Prop} (hne : ∃ w, S w) : (std Try.prog).stepS S (sIndexAddr 58 (.pointer (some a)) (.int .i64 (i : Nat))) k = k (.pointer (some (a.add (i)))) := stepS_run hne fun _ _ => rxa58 h
/-- the rules for single steps, all at once -/
theorem PX : (∀ {t : TypeId} {x y : Operand} {q : IntKind} {a b : Int}  {w : World} {K : Value → World → Prop}, (std Try.prog).step (sBin .add t x y (.int q a) (.int q b)) w K = K (.int q (q.wrap (a + b))) w) ∧
  (∀ {t : TypeId} {x y : Operand} {q : IntKind} {a b : Int}  {w : World} {K : Value → World → Prop}, (std Try.prog).step (sBin .sub t x y (.int q a) (.int q b)) w K = K (.int q (q.wrap (a - b))) w) ∧
  (∀ {t : TypeId} {x y : Operand} {q : IntKind} {a b : Int}  {w : World} {K : Value → World → Prop}, (std Try.prog).step (sBin .mul t x y (.int q a) (.int q b)) w K = K (.int q (q.wrap (a * b))) w) ∧
  (∀ {t : TypeId} {x y : Operand} {q : IntKind} {a b : Int}  {w : World} {K : Value → World → Prop}, (std Try.prog).step (sBin .and t x y (.int q a) (.int q b)) w K = K (.int q (bitOp .and q a b)) w) ∧
  (∀ {t : TypeId} {x y : Operand} {q : IntKind} {a b : Int}  {w : World} {K : Value → World → Prop}, (std Try.prog).step (sBin .or t x y (.int q a) (.int q b)) w K = K (.int q (bitOp .or q a b)) w) ∧
  (∀ {t : TypeId} {x y : Operand} {q : IntKind} {a b : Int}  {w : World} {K : Value → World → Prop}, (std Try.prog).step (sBin .xor t x y (.int q a) (.int q b)) w K = K (.int q (bitOp .xor q a b)) w) ∧
  (∀ {t : TypeId} {x y : Operand} {q : IntKind} {a b : Int}  {w : World} {K : Value → World → Prop}, (std Try.prog).step (sBin .lss t x y (.int q a) (.int q b)) w K = K (.bool (decide (a < b))) w) ∧
  (∀ {t : TypeId} {x y : Operand} {q : IntKind} {a b : Int}  {w : World} {K : Value → World → Prop}, (std Try.prog).step (sBin .leq t x y (.int q a) (.int q b)) w K = K (.bool (decide (a ≤ b))) w) ∧
  (∀ {t : TypeId} {x y : Operand} {q : IntKind} {a b : Int}  {w : World} {K : Value → World → Prop}, (std Try.prog).step (sBin .gtr t x y (.int q a) (.int q b)) w K = K (.bool (decide (b < a))) w) ∧
  (∀ {t : TypeId} {x y : Operand} {q : IntKind} {a b : Int}  {w : World} {K : Value → World → Prop}, (std Try.prog).step (sBin .geq t x y (.int q a) (.int q b)) w K = K (.bool (decide (b ≤ a))) w) ∧
  (∀ {t : TypeId} {x y : Operand} {q : IntKind} {a b : Int}  {w : World} {K : Value → World → Prop}, (std Try.prog).step (sBin .eql t x y (.int q a) (.int q b)) w K = K (.bool (decide (a = b))) w) ∧
  (∀ {t : TypeId} {x y : Operand} {q : IntKind} {a b : Int}  {w : World} {K : Value → World → Prop}, (std Try.prog).step (sBin .neq t x y (.int q a) (.int q b)) w K = K (.bool (decide (a ≠ b))) w) ∧
  (∀ {t : TypeId} {x y : Operand} {q : IntKind} {a b : Int} (h : b ≠ 0) {w : World} {K : Value → World → Prop}, (std Try.prog).step (sBin .quo t x y (.int q a) (.int q b)) w K = K (.int q (q.wrap (a.tdiv b))) w) ∧
  (∀ {t : TypeId} {x y : Operand} {q : IntKind} {a b : Int} (h : b ≠ 0) {w : World} {K : Value → World → Prop}, (std Try.prog).step (sBin .rem t x y (.int q a) (.int q b)) w K = K (.int q (a.tmod b)) w) ∧
  (∀ {t : TypeId} {x y : Operand} {q q' : IntKind} {a b : Int} (h : ¬ b < 0) {w : World} {K : Value → World → Prop}, (std Try.prog).step (sBin .shl t x y (.int q a) (.int q' b)) w K = K (.int q (q.wrap (a * 2 ^ (min b.toNat q.bits)))) w) ∧
  (∀ {t : TypeId} {x y : Operand} {q q' : IntKind} {a b : Int} (h : ¬ b < 0) {w : World} {K : Value → World → Prop}, (std Try.prog).step (sBin .shr t x y (.int q a) (.int q' b)) w K = K (.int q (a.fdiv (2 ^ (min b.toNat q.bits)))) w) ∧
  (∀ {t : TypeId} {x y : Operand} {a b : ByteArray}  {w : World} {K : Value → World → Prop}, (std Try.prog).step (sBin .eql t x y (.string a) (.string b)) w K = K (.bool (decide (a = b))) w) ∧
  (∀ {t : TypeId} {x y : Operand} {a b : ByteArray}  {w : World} {K : Value → World → Prop}, (std Try.prog).step (sBin .neq t x y (.string a) (.string b)) w K = K (.bool (!decide (a = b))) w) ∧
  (∀ {t : TypeId} {x y : Operand} {a b : ByteArray} (h : a.size + b.size ≤ 9223372036854775807) {w : World} {K : Value → World → Prop}, (std Try.prog).step (sBin .add t x y (.string a) (.string b)) w K = K (.string (a ++ b)) w) ∧
  (∀ {b : Bool}  {w : World} {K : Value → World → Prop}, (std Try.prog).step (sUn .not (.bool b)) w K = K (.bool (!b)) w) ∧
  (∀ {q : IntKind} {a : Int}  {w : World} {K : Value → World → Prop}, (std Try.prog).step (sUn .neg (.int q a)) w K = K (.int q (q.wrap (0 - a))) w) ∧
  (∀ {q : IntKind} {a : Int}  {w : World} {K : Value → World → Prop}, (std Try.prog).step (sUn .xor (.int q a)) w K = K (.int q (bitOp .xor q (if q.signed then -1 else q.max) a)) w) ∧
  (∀ {a : Addr}  {w : World} {K : Value → World → Prop}, (std Try.prog).step (sNil (.pointer (some a))) w K = K (.pointer (some a)) w) ∧
  (∀ {a b : Value}  {w : World} {K : Value → World → Prop}, (std Try.prog).step (sExtract (.tuple #[a, b]) 0) w K = K (a) w) ∧
  (∀ {a b : Value}  {w : World} {K : Value → World → Prop}, (std Try.prog).step (sExtract (.tuple #[a, b]) 1) w K = K (b) w) ∧
  (∀ {a b c : Value}  {w : World} {K : Value → World → Prop}, (std Try.prog).step (sExtract (.tuple #[a, b, c]) 0) w K = K (a) w) ∧
  (∀ {a b c : Value}  {w : World} {K : Value → World → Prop}, (std Try.prog).step (sExtract (.tuple #[a, b, c]) 1) w K = K (b) w) ∧
  (∀ {a b c : Value}  {w : World} {K : Value → World → Prop}, (std Try.prog).step (sExtract (.tuple #[a, b, c]) 2) w K = K (c) w) ∧
  (∀ {ats : Array TypeId} {ty : TypeId} {c : List Bool} {q : IntKind} {a b : Int}  {w : World} {K : Value → World → Prop}, (std Try.prog).step (sBuiltin .min ats ty c [.int q a, .int q b]) w K = K (.int q (if b < a then b else a)) w) ∧
  (∀ {ats : Array TypeId} {ty : TypeId} {c : List Bool} {q : IntKind} {a b : Int}  {w : World} {K : Value → World → Prop}, (std Try.prog).step (sBuiltin .max ats ty c [.int q a, .int q b]) w K = K (.int q (if a < b then b else a)) w) ∧
  (∀ {x y : Operand} {a : Addr}  {w : World} {K : Value → World → Prop}, (std Try.prog).step (sBin .eql 27 x y (.pointer (some a)) (.pointer none)) w K = K (.bool false) w) ∧
  (∀ {x y : Operand}  {w : World} {K : Value → World → Prop}, (std Try.prog).step (sBin .eql 27 x y (.pointer none) (.pointer none)) w K = K (.bool true) w) ∧
  (∀ {x y : Operand} {a : Addr}  {w : World} {K : Value → World → Prop}, (std Try.prog).step (sBin .eql 57 x y (.pointer (some a)) (.pointer none)) w K = K (.bool false) w) ∧
  (∀ {x y : Operand}  {w : World} {K : Value → World → Prop}, (std Try.prog).step (sBin .eql 57 x y (.pointer none) (.pointer none)) w K = K (.bool true) w) ∧
  (∀ {x y : Operand} {a : Addr}  {w : World} {K : Value → World → Prop}, (std Try.prog).step (sBin .neq 27 x y (.pointer (some a)) (.pointer none)) w K = K (.bool true) w) ∧
  (∀ {x y : Operand}  {w : World} {K : Value → World → Prop}, (std Try.prog).step (sBin .neq 27 x y (.pointer none) (.pointer none)) w K = K (.bool false) w) ∧
  (∀ {x y : Operand} {a b : Bool}  {w : World} {K : Value → World → Prop}, (std Try.prog).step (sBin .neq 4 x y (.bool a) (.bool b)) w K = K (.bool (!(a == b))) w) ∧
  (∀ {x y : Operand} {a : Addr}  {w : World} {K : Value → World → Prop}, (std Try.prog).step (sBin .neq 57 x y (.pointer (some a)) (.pointer none)) w K = K (.bool true) w) ∧
  (∀ {x y : Operand}  {w : World} {K : Value → World → Prop}, (std Try.prog).step (sBin .neq 57 x y (.pointer none) (.pointer none)) w K = K (.bool false) w) ∧
  (∀ {ty : TypeId} {c : List Bool} {A : Option Addr} {n m : Nat}  {w : World} {K : Value → World → Prop}, (std Try.prog).step (sBuiltin .len #[22] ty c [.slice A n m]) w K = K (.int .i64 n) w) ∧
  (∀ {ty : TypeId} {c : List Bool} {A : Option Addr} {n m : Nat}  {w : World} {K : Value → World → Prop}, (std Try.prog).step (sBuiltin .len #[34] ty c [.slice A n m]) w K = K (.int .i64 n) w) ∧
  (∀ {ty : TypeId} {c : List Bool} {s : ByteArray}  {w : World} {K : Value → World → Prop}, (std Try.prog).step (sBuiltin .len #[9] ty c [.string s]) w K = K (.int .i64 s.size) w) ∧
  (∀ {a : Addr}  {w : World} {K : Value → World → Prop}, (std Try.prog).step (sFieldAddr 24 (.pointer (some a)) 0) w K = K (.pointer (some (a))) w) ∧
  (∀ {a : Addr}  {w : World} {K : Value → World → Prop}, (std Try.prog).step (sFieldAddr 24 (.pointer (some a)) 1) w K = K (.pointer (some (a.add 1))) w) ∧
  (∀ {a : Addr}  {w : World} {K : Value → World → Prop}, (std Try.prog).step (sFieldAddr 24 (.pointer (some a)) 2) w K = K (.pointer (some (a.add 2))) w) ∧
  (∀ {a : Addr}  {w : World} {K : Value → World → Prop}, (std Try.prog).step (sFieldAddr 24 (.pointer (some a)) 3) w K = K (.pointer (some (a.add 3))) w) ∧
  (∀ {a : Addr}  {w : World} {K : Value → World → Prop}, (std Try.prog).step (sFieldAddr 24 (.pointer (some a)) 4) w K = K (.pointer (some (a.add 4))) w) ∧
  (∀ {a : Addr}  {w : World} {K : Value → World → Prop}, (std Try.prog).step (sFieldAddr 26 (.pointer (some a)) 0) w K = K (.pointer (some (a))) w) ∧
  (∀ {a : Addr}  {w : World} {K : Value → World → Prop}, (std Try.prog).step (sFieldAddr 26 (.pointer (some a)) 1) w K = K (.pointer (some (a.add 1))) w) ∧
  (∀ {a : Addr}  {w : World} {K : Value → World → Prop}, (std Try.prog).step (sFieldAddr 26 (.pointer (some a)) 2) w K = K (.pointer (some (a.add 2))) w) ∧
  (∀ {a : Addr}  {w : World} {K : Value → World → Prop}, (std Try.prog).step (sFieldAddr 26 (.pointer (some a)) 3) w K = K (.pointer (some (a.add 7))) w) ∧
  (∀ {a : Addr}  {w : World} {K : Value → World → Prop}, (std Try.prog).step (sFieldAddr 48 (.pointer (some a)) 0) w K = K (.pointer (some (a))) w) ∧
  (∀ {a : Addr}  {w : World} {K : Value → World → Prop}, (std Try.prog).step (sFieldAddr 48 (.pointer (some a)) 1) w K = K (.pointer (some (a.add 1))) w) ∧
  (∀ {a : Addr}  {w : World} {K : Value → World → Prop}, (std Try.prog).step (sFieldAddr 48 (.pointer (some a)) 2) w K = K (.pointer (some (a.add 2))) w) ∧
  (∀ {a : Addr}  {w : World} {K : Value → World → Prop}, (std Try.prog).step (sFieldAddr 51 (.pointer (some a)) 0) w K = K (.pointer (some (a))) w) ∧
  (∀ {a : Addr}  {w : World} {K : Value → World → Prop}, (std Try.prog).step (sFieldAddr 51 (.pointer (some a)) 1) w K = K (.pointer (some (a.add 1))) w) ∧
  (∀ {a : Addr}  {w : World} {K : Value → World → Prop}, (std Try.prog).step (sFieldAddr 60 (.pointer (some a)) 0) w K = K (.pointer (some (a))) w) ∧
  (∀ {a : Addr}  {w : World} {K : Value → World → Prop}, (std Try.prog).step (sFieldAddr 60 (.pointer (some a)) 1) w K = K (.pointer (some (a.add 1))) w) ∧
  (∀ {a : Addr}  {w : World} {K : Value → World → Prop}, (std Try.prog).step (sFieldAddr 62 (.pointer (some a)) 0) w K = K (.pointer (some (a))) w) ∧
  (∀ {a : Addr}  {w : World} {K : Value → World → Prop}, (std Try.prog).step (sFieldAddr 62 (.pointer (some a)) 1) w K = K (.pointer (some (a.add 1))) w) ∧
  (∀ {a : Addr} {n c i : Nat} (h : i < n) {w : World} {K : Value → World → Prop}, (std Try.prog).step (sIndexAddr 22 (.slice (some a) n c) (.int .i64 (i : Nat))) w K = K (.pointer (some (a.add (i * 5)))) w) ∧
  (∀ {a : Addr} {n c i : Nat} (h : i < n) {w : World} {K : Value → World → Prop}, (std Try.prog).step (sIndexAddr 34 (.slice (some a) n c) (.int .i64 (i : Nat))) w K = K (.pointer (some (a.add (i)))) w) ∧
  (∀ {a : Addr} {i : Nat} (h : i < 8) {w : World} {K : Value → World → Prop}, (std Try.prog).step (sIndexAddr 49 (.pointer (some a)) (.int .i64 (i : Nat))) w K = K (.pointer (some (a.add (i * 3)))) w) ∧
  (∀ {a : Addr} {i : Nat} (h : i < 8) {w : World} {K : Value → World → Prop}, (std Try.prog).step (sIndexAddr 58 (.pointer (some a)) (.int .i64 (i : Nat))) w K = K (.pointer (some (a.add (i)))) w) := ⟨@px_add, @px_sub, @px_mul, @px_and, @px_or, @px_xor, @px_lss, @px_leq, @px_gtr, @px_geq, @px_eql, @px_neq, @px_quo, @px_rem, @px_shl, @px_shr, @px_seql, @px_sneq, @px_sadd, @px_not, @px_neg, @px_inv, @px_nilc, @px_ext20, @px_ext21, @px_ext30, @px_ext31, @px_ext32, @px_min, @px_max, @px_peql27, @px_neql27, @px_peql57, @px_neql57, @px_pneq27, @px_nneq27, @px_bneq4, @px_pneq57, @px_nneq57, @px_len22, @px_len34, @px_len9, @px_fa24_0, @px_fa24_1, @px_fa24_2, @px_fa24_3, @px_fa24_4, @px_fa26_0, @px_fa26_1, @px_fa26_2, @px_fa26_3, @px_fa48_0, @px_fa48_1, @px_fa48_2, @px_fa51_0, @px_fa51_1, @px_fa60_0, @px_fa60_1, @px_fa62_0, @px_fa62_1, @px_ix22, @px_ix34, @px_xa49, @px_xa58⟩
theorem SX : (∀ {t : TypeId} {x y : Operand} {q : IntKind} {a b : Int}  {S : World → Prop} {k : Value → Prop} (hne : ∃ w, S w), (std Try.prog).stepS S (sBin .add t x y (.int q a) (.int q b)) k = k (.int q (q.wrap (a + b)))) ∧
  (∀ {t : TypeId} {x y : Operand} {q : IntKind} {a b : Int}  {S : World → Prop} {k : Value → Prop} (hne : ∃ w, S w), (std Try.prog).stepS S (sBin .sub t x y (.int q a) (.int q b)) k = k (.int q (q.wrap (a - b)))) ∧
  (∀ {t : TypeId} {x y : Operand} {q : IntKind} {a b : Int}  {S : World → Prop} {k : Value → Prop} (hne : ∃ w, S w), (std Try.prog).stepS S (sBin .mul t x y (.int q a) (.int q b)) k = k (.int q (q.wrap (a * b)))) ∧
  (∀ {t : TypeId} {x y : Operand} {q : IntKind} {a b : Int}  {S : World → Prop} {k : Value → Prop} (hne : ∃ w, S w), (std Try.prog).stepS S (sBin .and t x y (.int q a) (.int q b)) k = k (.int q (bitOp .and q a b))) ∧
  (∀ {t : TypeId} {x y : Operand} {q : IntKind} {a b : Int}  {S : World → Prop} {k : Value → Prop} (hne : ∃ w, S w), (std Try.prog).stepS S (sBin .or t x y (.int q a) (.int q b)) k = k (.int q (bitOp .or q a b))) ∧
  (∀ {t : TypeId} {x y : Operand} {q : IntKind} {a b : Int}  {S : World → Prop} {k : Value → Prop} (hne : ∃ w, S w), (std Try.prog).stepS S (sBin .xor t x y (.int q a) (.int q b)) k = k (.int q (bitOp .xor q a b))) ∧
  (∀ {t : TypeId} {x y : Operand} {q : IntKind} {a b : Int}  {S : World → Prop} {k : Value → Prop} (hne : ∃ w, S w), (std Try.prog).stepS S (sBin .lss t x y (.int q a) (.int q b)) k = k (.bool (decide (a < b)))) ∧
  (∀ {t : TypeId} {x y : Operand} {q : IntKind} {a b : Int}  {S : World → Prop} {k : Value → Prop} (hne : ∃ w, S w), (std Try.prog).stepS S (sBin .leq t x y (.int q a) (.int q b)) k = k (.bool (decide (a ≤ b)))) ∧
  (∀ {t : TypeId} {x y : Operand} {q : IntKind} {a b : Int}  {S : World → Prop} {k : Value → Prop} (hne : ∃ w, S w), (std Try.prog).stepS S (sBin .gtr t x y (.int q a) (.int q b)) k = k (.bool (decide (b < a)))) ∧
  (∀ {t : TypeId} {x y : Operand} {q : IntKind} {a b : Int}  {S : World → Prop} {k : Value → Prop} (hne : ∃ w, S w), (std Try.prog).stepS S (sBin .geq t x y (.int q a) (.int q b)) k = k (.bool (decide (b ≤ a)))) ∧
  (∀ {t : TypeId} {x y : Operand} {q : IntKind} {a b : Int}  {S : World → Prop} {k : Value → Prop} (hne : ∃ w, S w), (std Try.prog).stepS S (sBin .eql t x y (.int q a) (.int q b)) k = k (.bool (decide (a = b)))) ∧
  (∀ {t : TypeId} {x y : Operand} {q : IntKind} {a b : Int}  {S : World → Prop} {k : Value → Prop} (hne : ∃ w, S w), (std Try.prog).stepS S (sBin .neq t x y (.int q a) (.int q b)) k = k (.bool (decide (a ≠ b)))) ∧
  (∀ {t : TypeId} {x y : Operand} {q : IntKind} {a b : Int} (h : b ≠ 0) {S : World → Prop} {k : Value → Prop} (hne : ∃ w, S w), (std Try.prog).stepS S (sBin .quo t x y (.int q a) (.int q b)) k = k (.int q (q.wrap (a.tdiv b)))) ∧
  (∀ {t : TypeId} {x y : Operand} {q : IntKind} {a b : Int} (h : b ≠ 0) {S : World → Prop} {k : Value → Prop} (hne : ∃ w, S w), (std Try.prog).stepS S (sBin .rem t x y (.int q a) (.int q b)) k = k (.int q (a.tmod b))) ∧
  (∀ {t : TypeId} {x y : Operand} {q q' : IntKind} {a b : Int} (h : ¬ b < 0) {S : World → Prop} {k : Value → Prop} (hne : ∃ w, S w), (std Try.prog).stepS S (sBin .shl t x y (.int q a) (.int q' b)) k = k (.int q (q.wrap (a * 2 ^ (min b.toNat q.bits))))) ∧
  (∀ {t : TypeId} {x y : Operand} {q q' : IntKind} {a b : Int} (h : ¬ b < 0) {S : World → Prop} {k : Value → Prop} (hne : ∃ w, S w), (std Try.prog).stepS S (sBin .shr t x y (.int q a) (.int q' b)) k = k (.int q (a.fdiv (2 ^ (min b.toNat q.bits))))) ∧
  (∀ {t : TypeId} {x y : Operand} {a b : ByteArray}  {S : World → Prop} {k : Value → Prop} (hne : ∃ w, S w), (std Try.prog).stepS S (sBin .eql t x y (.string a) (.string b)) k = k (.bool (decide (a = b)))) ∧
  (∀ {t : TypeId} {x y : Operand} {a b : ByteArray}  {S : World → Prop} {k : Value → Prop} (hne : ∃ w, S w), (std Try.prog).stepS S (sBin .neq t x y (.string a) (.string b)) k = k (.bool (!decide (a = b)))) ∧
  (∀ {t : TypeId} {x y : Operand} {a b : ByteArray} (h : a.size + b.size ≤ 9223372036854775807) {S : World → Prop} {k : Value → Prop} (hne : ∃ w, S w), (std Try.prog).stepS S (sBin .add t x y (.string a) (.string b)) k = k (.string (a ++ b))) ∧
  (∀ {b : Bool}  {S : World → Prop} {k : Value → Prop} (hne : ∃ w, S w), (std Try.prog).stepS S (sUn .not (.bool b)) k = k (.bool (!b))) ∧
  (∀ {q : IntKind} {a : Int}  {S : World → Prop} {k : Value → Prop} (hne : ∃ w, S w), (std Try.prog).stepS S (sUn .neg (.int q a)) k = k (.int q (q.wrap (0 - a)))) ∧
  (∀ {q : IntKind} {a : Int}  {S : World → Prop} {k : Value → Prop} (hne : ∃ w, S w), (std Try.prog).stepS S (sUn .xor (.int q a)) k = k (.int q (bitOp .xor q (if q.signed then -1 else q.max) a))) ∧
  (∀ {a : Addr}  {S : World → Prop} {k : Value → Prop} (hne : ∃ w, S w), (std Try.prog).stepS S (sNil (.pointer (some a))) k = k (.pointer (some a))) ∧
  (∀ {a b : Value}  {S : World → Prop} {k : Value → Prop} (hne : ∃ w, S w), (std Try.prog).stepS S (sExtract (.tuple #[a, b]) 0) k = k (a)) ∧
  (∀ {a b : Value}  {S : World → Prop} {k : Value → Prop} (hne : ∃ w, S w), (std Try.prog).stepS S (sExtract (.tuple #[a, b]) 1) k = k (b)) ∧
  (∀ {a b c : Value}  {S : World → Prop} {k : Value → Prop} (hne : ∃ w, S w), (std Try.prog).stepS S (sExtract (.tuple #[a, b, c]) 0) k = k (a)) ∧
  (∀ {a b c : Value}  {S : World → Prop} {k : Value → Prop} (hne : ∃ w, S w), (std Try.prog).stepS S (sExtract (.tuple #[a, b, c]) 1) k = k (b)) ∧
  (∀ {a b c : Value}  {S : World → Prop} {k : Value → Prop} (hne : ∃ w, S w), (std Try.prog).stepS S (sExtract (.tuple #[a, b, c]) 2) k = k (c)) ∧
  (∀ {ats : Array TypeId} {ty : TypeId} {c : List Bool} {q : IntKind} {a b : Int}  {S : World → Prop} {k : Value → Prop} (hne : ∃ w, S w), (std Try.prog).stepS S (sBuiltin .min ats ty c [.int q a, .int q b]) k = k (.int q (if b < a then b else a))) ∧
  (∀ {ats : Array TypeId} {ty : TypeId} {c : List Bool} {q : IntKind} {a b : Int}  {S : World → Prop} {k : Value → Prop} (hne : ∃ w, S w), (std Try.prog).stepS S (sBuiltin .max ats ty c [.int q a, .int q b]) k = k (.int q (if a < b then b else a))) ∧
  (∀ {x y : Operand} {a : Addr}  {S : World → Prop} {k : Value → Prop} (hne : ∃ w, S w), (std Try.prog).stepS S (sBin .eql 27 x y (.pointer (some a)) (.pointer none)) k = k (.bool false)) ∧
  (∀ {x y : Operand}  {S : World → Prop} {k : Value → Prop} (hne : ∃ w, S w), (std Try.prog).stepS S (sBin .eql 27 x y (.pointer none) (.pointer none)) k = k (.bool true)) ∧
  (∀ {x y : Operand} {a : Addr}  {S : World → Prop} {k : Value → Prop} (hne : ∃ w, S w), (std Try.prog).stepS S (sBin .eql 57 x y (.pointer (some a)) (.pointer none)) k = k (.bool false)) ∧
  (∀ {x y : Operand}  {S : World → Prop} {k : Value → Prop} (hne : ∃ w, S w), (std Try.prog).stepS S (sBin .eql 57 x y (.pointer none) (.pointer none)) k = k (.bool true)) ∧
  (∀ {x y : Operand} {a : Addr}  {S : World → Prop} {k : Value → Prop} (hne : ∃ w, S w), (std Try.prog).stepS S (sBin .neq 27 x y (.pointer (some a)) (.pointer none)) k = k (.bool true)) ∧
  (∀ {x y : Operand}  {S : World → Prop} {k : Value → Prop} (hne : ∃ w, S w), (std Try.prog).stepS S (sBin .neq 27 x y (.pointer none) (.pointer none)) k = k (.bool false)) ∧
  (∀ {x y : Operand} {a b : Bool}  {S : World → Prop} {k : Value → Prop} (hne : ∃ w, S w), (std Try.prog).stepS S (sBin .neq 4 x y (.bool a) (.bool b)) k = k (.bool (!(a == b)))) ∧
  (∀ {x y : Operand} {a : Addr}  {S : World → Prop} {k : Value → Prop} (hne : ∃ w, S w), (std Try.prog).stepS S (sBin .neq 57 x y (.pointer (some a)) (.pointer none)) k = k (.bool true)) ∧
  (∀ {x y : Operand}  {S : World → Prop} {k : Value → Prop} (hne : ∃ w, S w), (std Try.prog).stepS S (sBin .neq 57 x y (.pointer none) (.pointer none)) k = k (.bool false)) ∧
  (∀ {ty : TypeId} {c : List Bool} {A : Option Addr} {n m : Nat}  {S : World → Prop} {k : Value → Prop} (hne : ∃ w, S w), (std Try.prog).stepS S (sBuiltin .len #[22] ty c [.slice A n m]) k = k (.int .i64 n)) ∧
  (∀ {ty : TypeId} {c : List Bool} {A : Option Addr} {n m : Nat}  {S : World → Prop} {k : Value → Prop} (hne : ∃ w, S w), (std Try.prog).stepS S (sBuiltin .len #[34] ty c [.slice A n m]) k = k (.int .i64 n)) ∧
  (∀ {ty : TypeId} {c : List Bool} {s : ByteArray}  {S : World → Prop} {k : Value → Prop} (hne : ∃ w, S w), (std Try.prog).stepS S (sBuiltin .len #[9] ty c [.string s]) k = k (.int .i64 s.size)) ∧
  (∀ {a : Addr}  {S : World → Prop} {k : Value → Prop} (hne : ∃ w, S w), (std Try.prog).stepS S (sFieldAddr 24 (.pointer (some a)) 0) k = k (.pointer (some (a)))) ∧
  (∀ {a : Addr}  {S : World → Prop} {k : Value → Prop} (hne : ∃ w, S w), (std Try.prog).stepS S (sFieldAddr 24 (.pointer (some a)) 1) k = k (.pointer (some (a.add 1)))) ∧
  (∀ {a : Addr}  {S : World → Prop} {k : Value → Prop} (hne : ∃ w, S w), (std Try.prog).stepS S (sFieldAddr 24 (.pointer (some a)) 2) k = k (.pointer (some (a.add 2)))) ∧
  (∀ {a : Addr}  {S : World → Prop} {k : Value → Prop} (hne : ∃ w, S w), (std Try.prog).stepS S (sFieldAddr 24 (.pointer (some a)) 3) k = k (.pointer (some (a.add 3)))) ∧
  (∀ {a : Addr}  {S : World → Prop} {k : Value → Prop} (hne : ∃ w, S w), (std Try.prog).stepS S (sFieldAddr 24 (.pointer (some a)) 4) k = k (.pointer (some (a.add 4)))) ∧
  (∀ {a : Addr}  {S : World → Prop} {k : Value → Prop} (hne : ∃ w, S w), (std Try.prog).stepS S (sFieldAddr 26 (.pointer (some a)) 0) k = k (.pointer (some (a)))) ∧
  (∀ {a : Addr}  {S : World → Prop} {k : Value → Prop} (hne : ∃ w, S w), (std Try.prog).stepS S (sFieldAddr 26 (.pointer (some a)) 1) k = k (.pointer (some (a.add 1)))) ∧
  (∀ {a : Addr}  {S : World → Prop} {k : Value → Prop} (hne : ∃ w, S w), (std Try.prog).stepS S (sFieldAddr 26 (.pointer (some a)) 2) k = k (.pointer (some (a.add 2)))) ∧
  (∀ {a : Addr}  {S : World → Prop} {k : Value → Prop} (hne : ∃ w, S w), (std Try.prog).stepS S (sFieldAddr 26 (.pointer (some a)) 3) k = k (.pointer (some (a.add 7)))) ∧
  (∀ {a : Addr}  {S : World → Prop} {k : Value → Prop} (hne : ∃ w, S w), (std Try.prog).stepS S (sFieldAddr 48 (.pointer (some a)) 0) k = k (.pointer (some (a)))) ∧
  (∀ {a : Addr}  {S : World → Prop} {k : Value → Prop} (hne : ∃ w, S w), (std Try.prog).stepS S (sFieldAddr 48 (.pointer (some a)) 1) k = k (.pointer (some (a.add 1)))) ∧
  (∀ {a : Addr}  {S : World → Prop} {k : Value → Prop} (hne : ∃ w, S w), (std Try.prog).stepS S (sFieldAddr 48 (.pointer (some a)) 2) k = k (.pointer (some (a.add 2)))) ∧
  (∀ {a : Addr}  {S : World → Prop} {k : Value → Prop} (hne : ∃ w, S w), (std Try.prog).stepS S (sFieldAddr 51 (.pointer (some a)) 0) k = k (.pointer (some (a)))) ∧
  (∀ {a : Addr}  {S : World → Prop} {k : Value → Prop} (hne : ∃ w, S w), (std Try.prog).stepS S (sFieldAddr 51 (.pointer (some a)) 1) k = k (.pointer (some (a.add 1)))) ∧
  (∀ {a : Addr}  {S : World → Prop} {k : Value → Prop} (hne : ∃ w, S w), (std Try.prog).stepS S (sFieldAddr 60 (.pointer (some a)) 0) k = k (.pointer (some (a)))) ∧
  (∀ {a : Addr}  {S : World → Prop} {k : Value → Prop} (hne : ∃ w, S w), (std Try.prog).stepS S (sFieldAddr 60 (.pointer (some a)) 1) k = k (.pointer (some (a.add 1)))) ∧
  (∀ {a : Addr}  {S : World → Prop} {k : Value → Prop} (hne : ∃ w, S w), (std Try.prog).stepS S (sFieldAddr 62 (.pointer (some a)) 0) k = k (.pointer (some (a)))) ∧
  (∀ {a : Addr}  {S : World → Prop} {k : Value → Prop} (hne : ∃ w, S w), (std Try.prog).stepS S (sFieldAddr 62 (.pointer (some a)) 1) k = k (.pointer (some (a.add 1)))) ∧
  (∀ {a : Addr} {n c i : Nat} (h : i < n) {S : World → Prop} {k : Value → Prop} (hne : ∃ w, S w), (std Try.prog).stepS S (sIndexAddr 22 (.slice (some a) n c) (.int .i64 (i : Nat))) k = k (.pointer (some (a.add (i * 5))))) ∧
  (∀ {a : Addr} {n c i : Nat} (h : i < n) {S : World → Prop} {k : Value → Prop} (hne : ∃ w, S w), (std Try.prog).stepS S (sIndexAddr 34 (.slice (some a) n c) (.int .i64 (i : Nat))) k = k (.pointer (some (a.add (i))))) ∧
  (∀ {a : Addr} {i : Nat} (h : i < 8) {S : World → Prop} {k : Value → Prop} (hne : ∃ w, S w), (std Try.prog).stepS S (sIndexAddr 49 (.pointer (some a)) (.int .i64 (i : Nat))) k = k (.pointer (some (a.add (i * 3))))) ∧
  (∀ {a : Addr} {i : Nat} (h : i < 8) {S : World → Prop} {k : Value → Prop} (hne : ∃ w, S w), (std Try.prog).stepS S (sIndexAddr 58 (.pointer (some a)) (.int .i64 (i : Nat))) k = k (.pointer (some (a.add (i))))) := ⟨@sx_add, @sx_sub, @sx_mul, @sx_and, @sx_or, @sx_xor, @sx_lss, @sx_leq, @sx_gtr, @sx_geq, @sx_eql, @sx_neq, @sx_quo, @sx_rem, @sx_shl, @sx_shr, @sx_seql, @sx_sneq, @sx_sadd, @sx_not, @sx_neg, @sx_inv, @sx_nilc, @sx_ext20, @sx_ext21, @sx_ext30, @sx_ext31, @sx_ext32, @sx_min, @sx_max, @sx_peql27, @sx_neql27, @sx_peql57, @sx_neql57, @sx_pneq27, @sx_nneq27, @sx_bneq4, @sx_pneq57, @sx_nneq57, @sx_len22, @sx_len34, @sx_len9, @sx_fa24_0, @sx_fa24_1, @sx_fa24_2, @sx_fa24_3, @sx_fa24_4, @sx_fa26_0, @sx_fa26_1, @sx_fa26_2, @sx_fa26_3, @sx_fa48_0, @sx_fa48_1, @sx_fa48_2, @sx_fa51_0, @sx_fa51_1, @sx_fa60_0, @sx_fa60_1, @sx_fa62_0, @sx_fa62_1, @sx_ix22, @sx_ix34, @sx_xa49, @sx_xa58⟩
theorem SLX : (∀ {a : Addr} {v : Value} {S : World → Prop} {k : Value → Prop} (hne : ∃ w, S w) (h : ∀ w, S w → w.cell? a = some v), (std Try.prog).stepS S (sLoad 22 (.pointer (some a))) k = k v) ∧
  (∀ {a : Addr} {v : Value} {S : World → Prop} {k : Value → Prop} (hne : ∃ w, S w) (h : ∀ w, S w → w.cell? a = some v), (std Try.prog).stepS S (sLoad 27 (.pointer (some a))) k = k v) ∧
  (∀ {a : Addr} {v : Value} {S : World → Prop} {k : Value → Prop} (hne : ∃ w, S w) (h : ∀ w, S w → w.cell? a = some v), (std Try.prog).stepS S (sLoad 3 (.pointer (some a))) k = k v) ∧
  (∀ {a : Addr} {v : Value} {S : World → Prop} {k : Value → Prop} (hne : ∃ w, S w) (h : ∀ w, S w → w.cell? a = some v), (std Try.prog).stepS S (sLoad 34 (.pointer (some a))) k = k v) ∧
  (∀ {a : Addr} {v : Value} {S : World → Prop} {k : Value → Prop} (hne : ∃ w, S w) (h : ∀ w, S w → w.cell? a = some v), (std Try.prog).stepS S (sLoad 4 (.pointer (some a))) k = k v) ∧
  (∀ {a : Addr} {v : Value} {S : World → Prop} {k : Value → Prop} (hne : ∃ w, S w) (h : ∀ w, S w → w.cell? a = some v), (std Try.prog).stepS S (sLoad 5 (.pointer (some a))) k = k v) ∧
  (∀ {a : Addr} {v : Value} {S : World → Prop} {k : Value → Prop} (hne : ∃ w, S w) (h : ∀ w, S w → w.cell? a = some v), (std Try.prog).stepS S (sLoad 57 (.pointer (some a))) k = k v) ∧
  (∀ {a : Addr} {v : Value} {S : World → Prop} {k : Value → Prop} (hne : ∃ w, S w) (h : ∀ w, S w → w.cell? a = some v), (std Try.prog).stepS S (sLoad 9 (.pointer (some a))) k = k v) := ⟨@sld22, @sld27, @sld3, @sld34, @sld4, @sld5, @sld57, @sld9⟩
theorem LX : (∀ {a : Addr} {v : Value} {w : World} {K : Value → World → Prop} (h : w.cell? a = some v), (std Try.prog).step (sLoad 22 (.pointer (some a))) w K = K v w) ∧
  (∀ {a : Addr} {v : Value} {w : World} {K : Value → World → Prop} (h : w.cell? a = some v), (std Try.prog).step (sLoad 27 (.pointer (some a))) w K = K v w) ∧
  (∀ {a : Addr} {v : Value} {w : World} {K : Value → World → Prop} (h : w.cell? a = some v), (std Try.prog).step (sLoad 3 (.pointer (some a))) w K = K v w) ∧
  (∀ {a : Addr} {v : Value} {w : World} {K : Value → World → Prop} (h : w.cell? a = some v), (std Try.prog).step (sLoad 34 (.pointer (some a))) w K = K v w) ∧
  (∀ {a : Addr} {v : Value} {w : World} {K : Value → World → Prop} (h : w.cell? a = some v), (std Try.prog).step (sLoad 4 (.pointer (some a))) w K = K v w) ∧
  (∀ {a : Addr} {v : Value} {w : World} {K : Value → World → Prop} (h : w.cell? a = some v), (std Try.prog).step (sLoad 5 (.pointer (some a))) w K = K v w) ∧
  (∀ {a : Addr} {v : Value} {w : World} {K : Value → World → Prop} (h : w.cell? a = some v), (std Try.prog).step (sLoad 57 (.pointer (some a))) w K = K v w) ∧
  (∀ {a : Addr} {v : Value} {w : World} {K : Value → World → Prop} (h : w.cell? a = some v), (std Try.prog).step (sLoad 9 (.pointer (some a))) w K = K v w) := ⟨@ld22, @ld27, @ld3, @ld34, @ld4, @ld5, @ld57, @ld9⟩
theorem BX : (∀ (p : Prop) [Decidable p] (A B : Prop), (std Try.prog).bool (.bool (decide p)) A B = ((p → A) ∧ (¬ p → B))) ∧ (∀ (A B : Prop), (std Try.prog).bool (.bool true) A B = A) ∧ (∀ (A B : Prop), (std Try.prog).bool (.bool false) A B = B) ∧ (∀ (b : Bool) (A B : Prop), (std Try.prog).bool (.bool (!b)) A B = (std Try.prog).bool (.bool b) B A) := ⟨fun p => bool_dec p, bool_true, bool_false, bool_not⟩
end Go.Proofs.Ytdkahgknoohbpaa
