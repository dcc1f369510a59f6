/- Closed facts about the types of the program, and the rules for the steps at these types. Written by a program of this work. -/
import Derived.Test.YtibacmekhkaipaaRf
import Derived.Test.YtibacmekhkaipaaProg
import Derived.KernelRfl
namespace Go.Proofs.Ytibacmekhkaipaa
open Go Xf
set_option linter.unusedVariables false
set_option maxRecDepth 100000

-- 2: int64
theorem u2 : Try.prog.underlying 2 = some (.int .i64) := by kernel_rfl
theorem ag2 : (Try.prog.underlying 2).map isAggD = some false := by kernel_rfl
theorem sz2 : (Try.prog.info? 2).map (·.size) = some 1 := by kernel_rfl
theorem ze2 : (Try.prog.info? 2).bind (·.zero) = some (.int .i64 0) := by kernel_rfl
theorem inf2 : ∃ i, Try.prog.info? 2 = some i ∧ i.zero = some (.int .i64 0) ∧ i.size = 1 ∧ i.bytes = 8 := info_parts (by kernel_rfl : (Try.prog.info? 2).map (fun i => (i.zero, i.size, i.bytes)) = some (some (.int .i64 0), 1, 8))
-- 3: int
theorem u3 : Try.prog.underlying 3 = some (.int .i64) := by kernel_rfl
theorem ag3 : (Try.prog.underlying 3).map isAggD = some false := by kernel_rfl
theorem sz3 : (Try.prog.info? 3).map (·.size) = some 1 := by kernel_rfl
theorem ze3 : (Try.prog.info? 3).bind (·.zero) = some (.int .i64 0) := by kernel_rfl
theorem inf3 : ∃ i, Try.prog.info? 3 = some i ∧ i.zero = some (.int .i64 0) ∧ i.size = 1 ∧ i.bytes = 8 := info_parts (by kernel_rfl : (Try.prog.info? 3).map (fun i => (i.zero, i.size, i.bytes)) = some (some (.int .i64 0), 1, 8))
-- 4: bool
theorem u4 : Try.prog.underlying 4 = some (.bool) := by kernel_rfl
theorem ag4 : (Try.prog.underlying 4).map isAggD = some false := by kernel_rfl
theorem sz4 : (Try.prog.info? 4).map (·.size) = some 1 := by kernel_rfl
theorem ze4 : (Try.prog.info? 4).bind (·.zero) = some (.bool false) := by kernel_rfl
theorem inf4 : ∃ i, Try.prog.info? 4 = some i ∧ i.zero = some (.bool false) ∧ i.size = 1 ∧ i.bytes = 1 := info_parts (by kernel_rfl : (Try.prog.info? 4).map (fun i => (i.zero, i.size, i.bytes)) = some (some (.bool false), 1, 1))
-- 5: uint8
theorem u5 : Try.prog.underlying 5 = some (.int .u8) := by kernel_rfl
theorem ag5 : (Try.prog.underlying 5).map isAggD = some false := by kernel_rfl
theorem sz5 : (Try.prog.info? 5).map (·.size) = some 1 := by kernel_rfl
theorem ze5 : (Try.prog.info? 5).bind (·.zero) = some (.int .u8 0) := by kernel_rfl
theorem inf5 : ∃ i, Try.prog.info? 5 = some i ∧ i.zero = some (.int .u8 0) ∧ i.size = 1 ∧ i.bytes = 1 := info_parts (by kernel_rfl : (Try.prog.info? 5).map (fun i => (i.zero, i.size, i.bytes)) = some (some (.int .u8 0), 1, 1))
-- 9: string
theorem u9 : Try.prog.underlying 9 = some (.string) := by kernel_rfl
theorem ag9 : (Try.prog.underlying 9).map isAggD = some false := by kernel_rfl
theorem sz9 : (Try.prog.info? 9).map (·.size) = some 1 := by kernel_rfl
theorem ze9 : (Try.prog.info? 9).bind (·.zero) = some (.string ⟨#[]⟩) := by kernel_rfl
theorem inf9 : ∃ i, Try.prog.info? 9 = some i ∧ i.zero = some (.string ⟨#[]⟩) ∧ i.size = 1 ∧ i.bytes = 16 := info_parts (by kernel_rfl : (Try.prog.info? 9).map (fun i => (i.zero, i.size, i.bytes)) = some (some (.string ⟨#[]⟩), 1, 16))
-- 22: []uint8
theorem u22 : Try.prog.underlying 22 = some (.slice 5) := by kernel_rfl
theorem ag22 : (Try.prog.underlying 22).map isAggD = some false := by kernel_rfl
theorem sz22 : (Try.prog.info? 22).map (·.size) = some 1 := by kernel_rfl
theorem ze22 : (Try.prog.info? 22).bind (·.zero) = some (.slice none 0 0) := by kernel_rfl
theorem inf22 : ∃ i, Try.prog.info? 22 = some i ∧ i.zero = some (.slice none 0 0) ∧ i.size = 1 ∧ i.bytes = 24 := info_parts (by kernel_rfl : (Try.prog.info? 22).map (fun i => (i.zero, i.size, i.bytes)) = some (some (.slice none 0 0), 1, 24))
-- 23: *enc.Reader
theorem u23 : Try.prog.underlying 23 = some (.pointer 67) := by kernel_rfl
theorem ag23 : (Try.prog.underlying 23).map isAggD = some false := by kernel_rfl
theorem sz23 : (Try.prog.info? 23).map (·.size) = some 1 := by kernel_rfl
theorem ze23 : (Try.prog.info? 23).bind (·.zero) = some (.pointer none) := by kernel_rfl
theorem inf23 : ∃ i, Try.prog.info? 23 = some i ∧ i.zero = some (.pointer none) ∧ i.size = 1 ∧ i.bytes = 8 := info_parts (by kernel_rfl : (Try.prog.info? 23).map (fun i => (i.zero, i.size, i.bytes)) = some (some (.pointer none), 1, 8))
-- 27: *enc.Writer
theorem u27 : Try.prog.underlying 27 = some (.pointer 71) := by kernel_rfl
theorem ag27 : (Try.prog.underlying 27).map isAggD = some false := by kernel_rfl
theorem sz27 : (Try.prog.info? 27).map (·.size) = some 1 := by kernel_rfl
theorem ze27 : (Try.prog.info? 27).bind (·.zero) = some (.pointer none) := by kernel_rfl
theorem inf27 : ∃ i, Try.prog.info? 27 = some i ∧ i.zero = some (.pointer none) ∧ i.size = 1 ∧ i.bytes = 8 := info_parts (by kernel_rfl : (Try.prog.info? 27).map (fun i => (i.zero, i.size, i.bytes)) = some (some (.pointer none), 1, 8))
-- 32: []flotillalaw01.Thing
theorem u32 : Try.prog.underlying 32 = some (.slice 36) := by kernel_rfl
theorem ag32 : (Try.prog.underlying 32).map isAggD = some false := by kernel_rfl
theorem sz32 : (Try.prog.info? 32).map (·.size) = some 1 := by kernel_rfl
theorem ze32 : (Try.prog.info? 32).bind (·.zero) = some (.slice none 0 0) := by kernel_rfl
theorem inf32 : ∃ i, Try.prog.info? 32 = some i ∧ i.zero = some (.slice none 0 0) ∧ i.size = 1 ∧ i.bytes = 24 := info_parts (by kernel_rfl : (Try.prog.info? 32).map (fun i => (i.zero, i.size, i.bytes)) = some (some (.slice none 0 0), 1, 24))
-- 34: uint64
theorem u34 : Try.prog.underlying 34 = some (.int .u64) := by kernel_rfl
theorem ag34 : (Try.prog.underlying 34).map isAggD = some false := by kernel_rfl
theorem sz34 : (Try.prog.info? 34).map (·.size) = some 1 := by kernel_rfl
theorem ze34 : (Try.prog.info? 34).bind (·.zero) = some (.int .u64 0) := by kernel_rfl
theorem inf34 : ∃ i, Try.prog.info? 34 = some i ∧ i.zero = some (.int .u64 0) ∧ i.size = 1 ∧ i.bytes = 8 := info_parts (by kernel_rfl : (Try.prog.info? 34).map (fun i => (i.zero, i.size, i.bytes)) = some (some (.int .u64 0), 1, 8))
-- 35: struct { Kind int; N uint64; S string }
theorem ag35 : (Try.prog.underlying 35).map isAggD = some true := by kernel_rfl
theorem sz35 : (Try.prog.info? 35).map (·.size) = some 3 := by kernel_rfl
theorem ze35 : (Try.prog.info? 35).bind (·.zero) = some (.agg #[.int .i64 0, .int .u64 0, .string ⟨#[]⟩]) := by kernel_rfl
theorem inf35 : ∃ i, Try.prog.info? 35 = some i ∧ i.zero = some (.agg #[.int .i64 0, .int .u64 0, .string ⟨#[]⟩]) ∧ i.size = 3 ∧ i.bytes = 32 := info_parts (by kernel_rfl : (Try.prog.info? 35).map (fun i => (i.zero, i.size, i.bytes)) = some (some (.agg #[.int .i64 0, .int .u64 0, .string ⟨#[]⟩]), 3, 32))
-- 36: flotillalaw01.Thing
theorem ag36 : (Try.prog.underlying 36).map isAggD = some true := by kernel_rfl
theorem sz36 : (Try.prog.info? 36).map (·.size) = some 3 := by kernel_rfl
theorem ze36 : (Try.prog.info? 36).bind (·.zero) = some (.agg #[.int .i64 0, .int .u64 0, .string ⟨#[]⟩]) := by kernel_rfl
theorem inf36 : ∃ i, Try.prog.info? 36 = some i ∧ i.zero = some (.agg #[.int .i64 0, .int .u64 0, .string ⟨#[]⟩]) ∧ i.size = 3 ∧ i.bytes = 32 := info_parts (by kernel_rfl : (Try.prog.info? 36).map (fun i => (i.zero, i.size, i.bytes)) = some (some (.agg #[.int .i64 0, .int .u64 0, .string ⟨#[]⟩]), 3, 32))
-- 39: uint
theorem u39 : Try.prog.underlying 39 = some (.int .u64) := by kernel_rfl
theorem ag39 : (Try.prog.underlying 39).map isAggD = some false := by kernel_rfl
theorem sz39 : (Try.prog.info? 39).map (·.size) = some 1 := by kernel_rfl
theorem ze39 : (Try.prog.info? 39).bind (·.zero) = some (.int .u64 0) := by kernel_rfl
theorem inf39 : ∃ i, Try.prog.info? 39 = some i ∧ i.zero = some (.int .u64 0) ∧ i.size = 1 ∧ i.bytes = 8 := info_parts (by kernel_rfl : (Try.prog.info? 39).map (fun i => (i.zero, i.size, i.bytes)) = some (some (.int .u64 0), 1, 8))
-- 41: api.Errno
theorem u41 : Try.prog.underlying 41 = some (.int .i64) := by kernel_rfl
theorem ag41 : (Try.prog.underlying 41).map isAggD = some false := by kernel_rfl
theorem sz41 : (Try.prog.info? 41).map (·.size) = some 1 := by kernel_rfl
theorem ze41 : (Try.prog.info? 41).bind (·.zero) = some (.int .i64 0) := by kernel_rfl
theorem inf41 : ∃ i, Try.prog.info? 41 = some i ∧ i.zero = some (.int .i64 0) ∧ i.size = 1 ∧ i.bytes = 8 := info_parts (by kernel_rfl : (Try.prog.info? 41).map (fun i => (i.zero, i.size, i.bytes)) = some (some (.int .i64 0), 1, 8))
-- 45: []flotillalaw01.Ask
theorem u45 : Try.prog.underlying 45 = some (.slice 50) := by kernel_rfl
theorem ag45 : (Try.prog.underlying 45).map isAggD = some false := by kernel_rfl
theorem sz45 : (Try.prog.info? 45).map (·.size) = some 1 := by kernel_rfl
theorem ze45 : (Try.prog.info? 45).bind (·.zero) = some (.slice none 0 0) := by kernel_rfl
theorem inf45 : ∃ i, Try.prog.info? 45 = some i ∧ i.zero = some (.slice none 0 0) ∧ i.size = 1 ∧ i.bytes = 24 := info_parts (by kernel_rfl : (Try.prog.info? 45).map (fun i => (i.zero, i.size, i.bytes)) = some (some (.slice none 0 0), 1, 24))
-- 47: struct { B string; At int; Err api.Errno }
theorem ag47 : (Try.prog.underlying 47).map isAggD = some true := by kernel_rfl
theorem sz47 : (Try.prog.info? 47).map (·.size) = some 3 := by kernel_rfl
theorem ze47 : (Try.prog.info? 47).bind (·.zero) = some (.agg #[.string ⟨#[]⟩, .int .i64 0, .int .i64 0]) := by kernel_rfl
theorem inf47 : ∃ i, Try.prog.info? 47 = some i ∧ i.zero = some (.agg #[.string ⟨#[]⟩, .int .i64 0, .int .i64 0]) ∧ i.size = 3 ∧ i.bytes = 32 := info_parts (by kernel_rfl : (Try.prog.info? 47).map (fun i => (i.zero, i.size, i.bytes)) = some (some (.agg #[.string ⟨#[]⟩, .int .i64 0, .int .i64 0]), 3, 32))
-- 48: flotillaref01.Reader
theorem ag48 : (Try.prog.underlying 48).map isAggD = some true := by kernel_rfl
theorem sz48 : (Try.prog.info? 48).map (·.size) = some 3 := by kernel_rfl
theorem ze48 : (Try.prog.info? 48).bind (·.zero) = some (.agg #[.string ⟨#[]⟩, .int .i64 0, .int .i64 0]) := by kernel_rfl
theorem inf48 : ∃ i, Try.prog.info? 48 = some i ∧ i.zero = some (.agg #[.string ⟨#[]⟩, .int .i64 0, .int .i64 0]) ∧ i.size = 3 ∧ i.bytes = 32 := info_parts (by kernel_rfl : (Try.prog.info? 48).map (fun i => (i.zero, i.size, i.bytes)) = some (some (.agg #[.string ⟨#[]⟩, .int .i64 0, .int .i64 0]), 3, 32))
-- 49: struct { Kind int; Most int }
theorem ag49 : (Try.prog.underlying 49).map isAggD = some true := by kernel_rfl
theorem sz49 : (Try.prog.info? 49).map (·.size) = some 2 := by kernel_rfl
theorem ze49 : (Try.prog.info? 49).bind (·.zero) = some (.agg #[.int .i64 0, .int .i64 0]) := by kernel_rfl
theorem inf49 : ∃ i, Try.prog.info? 49 = some i ∧ i.zero = some (.agg #[.int .i64 0, .int .i64 0]) ∧ i.size = 2 ∧ i.bytes = 16 := info_parts (by kernel_rfl : (Try.prog.info? 49).map (fun i => (i.zero, i.size, i.bytes)) = some (some (.agg #[.int .i64 0, .int .i64 0]), 2, 16))
-- 50: flotillalaw01.Ask
theorem ag50 : (Try.prog.underlying 50).map isAggD = some true := by kernel_rfl
theorem sz50 : (Try.prog.info? 50).map (·.size) = some 2 := by kernel_rfl
theorem ze50 : (Try.prog.info? 50).bind (·.zero) = some (.agg #[.int .i64 0, .int .i64 0]) := by kernel_rfl
theorem inf50 : ∃ i, Try.prog.info? 50 = some i ∧ i.zero = some (.agg #[.int .i64 0, .int .i64 0]) ∧ i.size = 2 ∧ i.bytes = 16 := info_parts (by kernel_rfl : (Try.prog.info? 50).map (fun i => (i.zero, i.size, i.bytes)) = some (some (.agg #[.int .i64 0, .int .i64 0]), 2, 16))
-- 53: uint16
theorem u53 : Try.prog.underlying 53 = some (.int .u16) := by kernel_rfl
theorem ag53 : (Try.prog.underlying 53).map isAggD = some false := by kernel_rfl
theorem sz53 : (Try.prog.info? 53).map (·.size) = some 1 := by kernel_rfl
theorem ze53 : (Try.prog.info? 53).bind (·.zero) = some (.int .u16 0) := by kernel_rfl
theorem inf53 : ∃ i, Try.prog.info? 53 = some i ∧ i.zero = some (.int .u16 0) ∧ i.size = 1 ∧ i.bytes = 2 := info_parts (by kernel_rfl : (Try.prog.info? 53).map (fun i => (i.zero, i.size, i.bytes)) = some (some (.int .u16 0), 1, 2))
-- 55: uint32
theorem u55 : Try.prog.underlying 55 = some (.int .u32) := by kernel_rfl
theorem ag55 : (Try.prog.underlying 55).map isAggD = some false := by kernel_rfl
theorem sz55 : (Try.prog.info? 55).map (·.size) = some 1 := by kernel_rfl
theorem ze55 : (Try.prog.info? 55).bind (·.zero) = some (.int .u32 0) := by kernel_rfl
theorem inf55 : ∃ i, Try.prog.info? 55 = some i ∧ i.zero = some (.int .u32 0) ∧ i.size = 1 ∧ i.bytes = 4 := info_parts (by kernel_rfl : (Try.prog.info? 55).map (fun i => (i.zero, i.size, i.bytes)) = some (some (.int .u32 0), 1, 4))
-- 64: struct { b []uint8 }
theorem ag64 : (Try.prog.underlying 64).map isAggD = some true := by kernel_rfl
theorem sz64 : (Try.prog.info? 64).map (·.size) = some 1 := by kernel_rfl
theorem ze64 : (Try.prog.info? 64).bind (·.zero) = some (.agg #[.slice none 0 0]) := by kernel_rfl
theorem inf64 : ∃ i, Try.prog.info? 64 = some i ∧ i.zero = some (.agg #[.slice none 0 0]) ∧ i.size = 1 ∧ i.bytes = 24 := info_parts (by kernel_rfl : (Try.prog.info? 64).map (fun i => (i.zero, i.size, i.bytes)) = some (some (.agg #[.slice none 0 0]), 1, 24))
-- 65: enc.buf
theorem ag65 : (Try.prog.underlying 65).map isAggD = some true := by kernel_rfl
theorem sz65 : (Try.prog.info? 65).map (·.size) = some 1 := by kernel_rfl
theorem ze65 : (Try.prog.info? 65).bind (·.zero) = some (.agg #[.slice none 0 0]) := by kernel_rfl
theorem inf65 : ∃ i, Try.prog.info? 65 = some i ∧ i.zero = some (.agg #[.slice none 0 0]) ∧ i.size = 1 ∧ i.bytes = 24 := info_parts (by kernel_rfl : (Try.prog.info? 65).map (fun i => (i.zero, i.size, i.bytes)) = some (some (.agg #[.slice none 0 0]), 1, 24))
-- 66: struct { enc.buf; err api.Errno }
theorem ag66 : (Try.prog.underlying 66).map isAggD = some true := by kernel_rfl
theorem sz66 : (Try.prog.info? 66).map (·.size) = some 2 := by kernel_rfl
theorem ze66 : (Try.prog.info? 66).bind (·.zero) = some (.agg #[.slice none 0 0, .int .i64 0]) := by kernel_rfl
theorem inf66 : ∃ i, Try.prog.info? 66 = some i ∧ i.zero = some (.agg #[.slice none 0 0, .int .i64 0]) ∧ i.size = 2 ∧ i.bytes = 32 := info_parts (by kernel_rfl : (Try.prog.info? 66).map (fun i => (i.zero, i.size, i.bytes)) = some (some (.agg #[.slice none 0 0, .int .i64 0]), 2, 32))
-- 67: enc.Reader
theorem ag67 : (Try.prog.underlying 67).map isAggD = some true := by kernel_rfl
theorem sz67 : (Try.prog.info? 67).map (·.size) = some 2 := by kernel_rfl
theorem ze67 : (Try.prog.info? 67).bind (·.zero) = some (.agg #[.slice none 0 0, .int .i64 0]) := by kernel_rfl
theorem inf67 : ∃ i, Try.prog.info? 67 = some i ∧ i.zero = some (.agg #[.slice none 0 0, .int .i64 0]) ∧ i.size = 2 ∧ i.bytes = 32 := info_parts (by kernel_rfl : (Try.prog.info? 67).map (fun i => (i.zero, i.size, i.bytes)) = some (some (.agg #[.slice none 0 0, .int .i64 0]), 2, 32))
-- 70: struct { enc.buf }
theorem ag70 : (Try.prog.underlying 70).map isAggD = some true := by kernel_rfl
theorem sz70 : (Try.prog.info? 70).map (·.size) = some 1 := by kernel_rfl
theorem ze70 : (Try.prog.info? 70).bind (·.zero) = some (.agg #[.slice none 0 0]) := by kernel_rfl
theorem inf70 : ∃ i, Try.prog.info? 70 = some i ∧ i.zero = some (.agg #[.slice none 0 0]) ∧ i.size = 1 ∧ i.bytes = 24 := info_parts (by kernel_rfl : (Try.prog.info? 70).map (fun i => (i.zero, i.size, i.bytes)) = some (some (.agg #[.slice none 0 0]), 1, 24))
-- 71: enc.Writer
theorem ag71 : (Try.prog.underlying 71).map isAggD = some true := by kernel_rfl
theorem sz71 : (Try.prog.info? 71).map (·.size) = some 1 := by kernel_rfl
theorem ze71 : (Try.prog.info? 71).bind (·.zero) = some (.agg #[.slice none 0 0]) := by kernel_rfl
theorem inf71 : ∃ i, Try.prog.info? 71 = some i ∧ i.zero = some (.agg #[.slice none 0 0]) ∧ i.size = 1 ∧ i.bytes = 24 := info_parts (by kernel_rfl : (Try.prog.info? 71).map (fun i => (i.zero, i.size, i.bytes)) = some (some (.agg #[.slice none 0 0]), 1, 24))
-- 79: []int
theorem u79 : Try.prog.underlying 79 = some (.slice 3) := by kernel_rfl
theorem ag79 : (Try.prog.underlying 79).map isAggD = some false := by kernel_rfl
theorem sz79 : (Try.prog.info? 79).map (·.size) = some 1 := by kernel_rfl
theorem ze79 : (Try.prog.info? 79).bind (·.zero) = some (.slice none 0 0) := by kernel_rfl
theorem inf79 : ∃ i, Try.prog.info? 79 = some i ∧ i.zero = some (.slice none 0 0) ∧ i.size = 1 ∧ i.bytes = 24 := info_parts (by kernel_rfl : (Try.prog.info? 79).map (fun i => (i.zero, i.size, i.bytes)) = some (some (.slice none 0 0), 1, 24))

theorem rfa36_0 {a : Addr} {w : World} : (sFieldAddr 36 (.pointer (some a)) 0).run Try.prog w = .ok (.value (.pointer (some (a)))) w := by kernel_rfl
theorem rfa36_1 {a : Addr} {w : World} : (sFieldAddr 36 (.pointer (some a)) 1).run Try.prog w = .ok (.value (.pointer (some (a.add 1)))) w := by kernel_rfl
theorem rfa36_2 {a : Addr} {w : World} : (sFieldAddr 36 (.pointer (some a)) 2).run Try.prog w = .ok (.value (.pointer (some (a.add 2)))) w := by kernel_rfl
theorem rfa48_0 {a : Addr} {w : World} : (sFieldAddr 48 (.pointer (some a)) 0).run Try.prog w = .ok (.value (.pointer (some (a)))) w := by kernel_rfl
theorem rfa48_1 {a : Addr} {w : World} : (sFieldAddr 48 (.pointer (some a)) 1).run Try.prog w = .ok (.value (.pointer (some (a.add 1)))) w := by kernel_rfl
theorem rfa48_2 {a : Addr} {w : World} : (sFieldAddr 48 (.pointer (some a)) 2).run Try.prog w = .ok (.value (.pointer (some (a.add 2)))) w := by kernel_rfl
theorem rfa50_0 {a : Addr} {w : World} : (sFieldAddr 50 (.pointer (some a)) 0).run Try.prog w = .ok (.value (.pointer (some (a)))) w := by kernel_rfl
theorem rfa50_1 {a : Addr} {w : World} : (sFieldAddr 50 (.pointer (some a)) 1).run Try.prog w = .ok (.value (.pointer (some (a.add 1)))) w := by kernel_rfl
theorem rfa65_0 {a : Addr} {w : World} : (sFieldAddr 65 (.pointer (some a)) 0).run Try.prog w = .ok (.value (.pointer (some (a)))) w := by kernel_rfl
theorem rfa67_0 {a : Addr} {w : World} : (sFieldAddr 67 (.pointer (some a)) 0).run Try.prog w = .ok (.value (.pointer (some (a)))) w := by kernel_rfl
theorem rfa67_1 {a : Addr} {w : World} : (sFieldAddr 67 (.pointer (some a)) 1).run Try.prog w = .ok (.value (.pointer (some (a.add 1)))) w := by kernel_rfl
theorem rfa71_0 {a : Addr} {w : World} : (sFieldAddr 71 (.pointer (some a)) 0).run Try.prog w = .ok (.value (.pointer (some (a)))) w := by kernel_rfl
theorem rix22 {a : Addr} {n c i : Nat} {w : World} (h : i < n) : (sIndexAddr 22 (.slice (some a) n c) (.int .i64 (i : Nat))).run Try.prog w = .ok (.value (.pointer (some (a.add (i))))) w := by
  have := run_idxS (P := Try.prog) (w := w) (a := a) (c := c) (q := .i64) (i := (i : Nat)) u22 sz5 (by omega) (show ((i : Nat) : Int) < n by omega)
  rw [show ((i : Nat) : Int).toNat * 1 = i by omega] at this
  exact this
theorem rix32 {a : Addr} {n c i : Nat} {w : World} (h : i < n) : (sIndexAddr 32 (.slice (some a) n c) (.int .i64 (i : Nat))).run Try.prog w = .ok (.value (.pointer (some (a.add (i * 3))))) w := by
  have := run_idxS (P := Try.prog) (w := w) (a := a) (c := c) (q := .i64) (i := (i : Nat)) u32 sz36 (by omega) (show ((i : Nat) : Int) < n by omega)
  rw [show ((i : Nat) : Int).toNat * 3 = i * 3 by omega] at this
  exact this
theorem rix45 {a : Addr} {n c i : Nat} {w : World} (h : i < n) : (sIndexAddr 45 (.slice (some a) n c) (.int .i64 (i : Nat))).run Try.prog w = .ok (.value (.pointer (some (a.add (i * 2))))) w := by
  have := run_idxS (P := Try.prog) (w := w) (a := a) (c := c) (q := .i64) (i := (i : Nat)) u45 sz50 (by omega) (show ((i : Nat) : Int) < n by omega)
  rw [show ((i : Nat) : Int).toNat * 2 = i * 2 by omega] at this
  exact this
theorem rix79 {a : Addr} {n c i : Nat} {w : World} (h : i < n) : (sIndexAddr 79 (.slice (some a) n c) (.int .i64 (i : Nat))).run Try.prog w = .ok (.value (.pointer (some (a.add (i))))) w := by
  have := run_idxS (P := Try.prog) (w := w) (a := a) (c := c) (q := .i64) (i := (i : Nat)) u79 sz3 (by omega) (show ((i : Nat) : Int) < n by omega)
  rw [show ((i : Nat) : Int).toNat * 1 = i by omega] at this
  exact this
theorem ld22 {a : Addr} {v : Value} {w : World} {K : Value → World → Prop} (h : w.cell? a = some v) : (std Try.prog).step (sLoad 22 (.pointer (some a))) w K = K v w := step_run (run_sLoad (run_loadVar1 ag22 h))
theorem sld22 {a : Addr} {v : Value} {S : World → Prop} {k : Value → Prop} (hne : ∃ w, S w) (h : ∀ w, S w → w.cell? a = some v) : (std Try.prog).stepS S (sLoad 22 (.pointer (some a))) k = k v := stepS_run hne fun w hw => run_sLoad (run_loadVar1 ag22 (h w hw))
theorem ld3 {a : Addr} {v : Value} {w : World} {K : Value → World → Prop} (h : w.cell? a = some v) : (std Try.prog).step (sLoad 3 (.pointer (some a))) w K = K v w := step_run (run_sLoad (run_loadVar1 ag3 h))
theorem sld3 {a : Addr} {v : Value} {S : World → Prop} {k : Value → Prop} (hne : ∃ w, S w) (h : ∀ w, S w → w.cell? a = some v) : (std Try.prog).stepS S (sLoad 3 (.pointer (some a))) k = k v := stepS_run hne fun w hw => run_sLoad (run_loadVar1 ag3 (h w hw))
theorem ld34 {a : Addr} {v : Value} {w : World} {K : Value → World → Prop} (h : w.cell? a = some v) : (std Try.prog).step (sLoad 34 (.pointer (some a))) w K = K v w := step_run (run_sLoad (run_loadVar1 ag34 h))
theorem sld34 {a : Addr} {v : Value} {S : World → Prop} {k : Value → Prop} (hne : ∃ w, S w) (h : ∀ w, S w → w.cell? a = some v) : (std Try.prog).stepS S (sLoad 34 (.pointer (some a))) k = k v := stepS_run hne fun w hw => run_sLoad (run_loadVar1 ag34 (h w hw))
theorem ld41 {a : Addr} {v : Value} {w : World} {K : Value → World → Prop} (h : w.cell? a = some v) : (std Try.prog).step (sLoad 41 (.pointer (some a))) w K = K v w := step_run (run_sLoad (run_loadVar1 ag41 h))
theorem sld41 {a : Addr} {v : Value} {S : World → Prop} {k : Value → Prop} (hne : ∃ w, S w) (h : ∀ w, S w → w.cell? a = some v) : (std Try.prog).stepS S (sLoad 41 (.pointer (some a))) k = k v := stepS_run hne fun w hw => run_sLoad (run_loadVar1 ag41 (h w hw))
theorem ld5 {a : Addr} {v : Value} {w : World} {K : Value → World → Prop} (h : w.cell? a = some v) : (std Try.prog).step (sLoad 5 (.pointer (some a))) w K = K v w := step_run (run_sLoad (run_loadVar1 ag5 h))
theorem sld5 {a : Addr} {v : Value} {S : World → Prop} {k : Value → Prop} (hne : ∃ w, S w) (h : ∀ w, S w → w.cell? a = some v) : (std Try.prog).stepS S (sLoad 5 (.pointer (some a))) k = k v := stepS_run hne fun w hw => run_sLoad (run_loadVar1 ag5 (h w hw))
theorem ld9 {a : Addr} {v : Value} {w : World} {K : Value → World → Prop} (h : w.cell? a = some v) : (std Try.prog).step (sLoad 9 (.pointer (some a))) w K = K v w := step_run (run_sLoad (run_loadVar1 ag9 h))
theorem sld9 {a : Addr} {v : Value} {S : World → Prop} {k : Value → Prop} (hne : ∃ w, S w) (h : ∀ w, S w → w.cell? a = some v) : (std Try.prog).stepS S (sLoad 9 (.pointer (some a))) k = k v := stepS_run hne fun w hw => run_sLoad (run_loadVar1 ag9 (h w hw))
theorem px_add {t : TypeId} {x y : Operand} {q : IntKind} {a b : Int}  {w : World} {K : Value → World → Prop} : (std Try.prog).step (sBin .add t x y (.int q a) (.int q b)) w K = K (.int q (q.wrap (a + b))) w := step_run (r_add)
theorem sx_add {t : TypeId} {x y : Operand} {q : IntKind} {a b : Int}  {S : World → Prop} {k : Value → Prop} (hne : ∃ w, S w) : (std Try.prog).stepS S (sBin .add t x y (.int q a) (.int q b)) k = k (.int q (q.wrap (a + b))) := stepS_run hne fun _ _ => r_add
theorem px_sub {t : TypeId} {x y : Operand} {q : IntKind} {a b : Int}  {w : World} {K : Value → World → Prop} : (std Try.prog).step (sBin .sub t x y (.int q a) (.int q b)) w K = K (.int q (q.wrap (a - b))) w := step_run (r_sub)
theorem sx_sub {t : TypeId} {x y : Operand} {q : IntKind} {a b : Int}  {S : World → Prop} {k : Value → Prop} (hne : ∃ w, S w) : (std Try.prog).stepS S (sBin .sub t x y (.int q a) (.int q b)) k = k (.int q (q.wrap (a - b))) := stepS_run hne fun _ _ => r_sub
theorem px_mul {t : TypeId} {x y : Operand} {q : IntKind} {a b : Int}  {w : World} {K : Value → World → Prop} : (std Try.prog).step (sBin .mul t x y (.int q a) (.int q b)) w K = K (.int q (q.wrap (a * b))) w := step_run (r_mul)
theorem sx_mul {t : TypeId} {x y : Operand} {q : IntKind} {a b : Int}  {S : World → Prop} {k : Value → Prop} (hne : ∃ w, S w) : (std Try.prog).stepS S (sBin .mul t x y (.int q a) (.int q b)) k = k (.int q (q.wrap (a * b))) := stepS_run hne fun _ _ => r_mul
theorem px_and {t : TypeId} {x y : Operand} {q : IntKind} {a b : Int}  {w : World} {K : Value → World → Prop} : (std Try.prog).step (sBin .and t x y (.int q a) (.int q b)) w K = K (.int q (bitOp .and q a b)) w := step_run (r_and)
theorem sx_and {t : TypeId} {x y : Operand} {q : IntKind} {a b : Int}  {S : World → Prop} {k : Value → Prop} (hne : ∃ w, S w) : (std Try.prog).stepS S (sBin .and t x y (.int q a) (.int q b)) k = k (.int q (bitOp .and q a b)) := stepS_run hne fun _ _ => r_and
theorem px_or {t : TypeId} {x y : Operand} {q : IntKind} {a b : Int}  {w : World} {K : Value → World → Prop} : (std Try.prog).step (sBin .or t x y (.int q a) (.int q b)) w K = K (.int q (bitOp .or q a b)) w := step_run (r_or)
theorem sx_or {t : TypeId} {x y : Operand} {q : IntKind} {a b : Int}  {S : World → Prop} {k : Value → Prop} (hne : ∃ w, S w) : (std Try.prog).stepS S (sBin .or t x y (.int q a) (.int q b)) k = k (.int q (bitOp .or q a b)) := stepS_run hne fun _ _ => r_or
theorem px_xor {t : TypeId} {x y : Operand} {q : IntKind} {a b : Int}  {w : World} {K : Value → World → Prop} : (std Try.prog).step (sBin .xor t x y (.int q a) (.int q b)) w K = K (.int q (bitOp .xor q a b)) w := step_run (r_xor)
theorem sx_xor {t : TypeId} {x y : Operand} {q : IntKind} {a b : Int}  {S : World → Prop} {k : Value → Prop} (hne : ∃ w, S w) : (std Try.prog).stepS S (sBin .xor t x y (.int q a) (.int q b)) k = k (.int q (bitOp .xor q a b)) := stepS_run hne fun _ _ => r_xor
theorem px_lss {t : TypeId} {x y : Operand} {q : IntKind} {a b : Int}  {w : World} {K : Value → World → Prop} : (std Try.prog).step (sBin .lss t x y (.int q a) (.int q b)) w K = K (.bool (decide (a < b))) w := step_run (r_lss)
theorem sx_lss {t : TypeId} {x y : Operand} {q : IntKind} {a b : Int}  {S : World → Prop} {k : Value → Prop} (hne : ∃ w, S w) : (std Try.prog).stepS S (sBin .lss t x y (.int q a) (.int q b)) k = k (.bool (decide (a < b))) := stepS_run hne fun _ _ => r_lss
theorem px_leq {t : TypeId} {x y : Operand} {q : IntKind} {a b : Int}  {w : World} {K : Value → World → Prop} : (std Try.prog).step (sBin .leq t x y (.int q a) (.int q b)) w K = K (.bool (decide (a ≤ b))) w := step_run (r_leq)
theorem sx_leq {t : TypeId} {x y : Operand} {q : IntKind} {a b : Int}  {S : World → Prop} {k : Value → Prop} (hne : ∃ w, S w) : (std Try.prog).stepS S (sBin .leq t x y (.int q a) (.int q b)) k = k (.bool (decide (a ≤ b))) := stepS_run hne fun _ _ => r_leq
theorem px_gtr {t : TypeId} {x y : Operand} {q : IntKind} {a b : Int}  {w : World} {K : Value → World → Prop} : (std Try.prog).step (sBin .gtr t x y (.int q a) (.int q b)) w K = K (.bool (decide (b < a))) w := step_run (r_gtr)
theorem sx_gtr {t : TypeId} {x y : Operand} {q : IntKind} {a b : Int}  {S : World → Prop} {k : Value → Prop} (hne : ∃ w, S w) : (std Try.prog).stepS S (sBin .gtr t x y (.int q a) (.int q b)) k = k (.bool (decide (b < a))) := stepS_run hne fun _ _ => r_gtr
theorem px_geq {t : TypeId} {x y : Operand} {q : IntKind} {a b : Int}  {w : World} {K : Value → World → Prop} : (std Try.prog).step (sBin .geq t x y (.int q a) (.int q b)) w K = K (.bool (decide (b ≤ a))) w := step_run (r_geq)
theorem sx_geq {t : TypeId} {x y : Operand} {q : IntKind} {a b : Int}  {S : World → Prop} {k : Value → Prop} (hne : ∃ w, S w) : (std Try.prog).stepS S (sBin .geq t x y (.int q a) (.int q b)) k = k (.bool (decide (b ≤ a))) := stepS_run hne fun _ _ => r_geq
theorem px_eql {t : TypeId} {x y : Operand} {q : IntKind} {a b : Int}  {w : World} {K : Value → World → Prop} : (std Try.prog).step (sBin .eql t x y (.int q a) (.int q b)) w K = K (.bool (decide (a = b))) w := step_run (r_eql)
theorem sx_eql {t : TypeId} {x y : Operand} {q : IntKind} {a b : Int}  {S : World → Prop} {k : Value → Prop} (hne : ∃ w, S w) : (std Try.prog).stepS S (sBin .eql t x y (.int q a) (.int q b)) k = k (.bool (decide (a = b))) := stepS_run hne fun _ _ => r_eql
theorem px_neq {t : TypeId} {x y : Operand} {q : IntKind} {a b : Int}  {w : World} {K : Value → World → Prop} : (std Try.prog).step (sBin .neq t x y (.int q a) (.int q b)) w K = K (.bool (decide (a ≠ b))) w := step_run (r_neq)
theorem sx_neq {t : TypeId} {x y : Operand} {q : IntKind} {a b : Int}  {S : World → Prop} {k : Value → Prop} (hne : ∃ w, S w) : (std Try.prog).stepS S (sBin .neq t x y (.int q a) (.int q b)) k = k (.bool (decide (a ≠ b))) := stepS_run hne fun _ _ => r_neq
theorem px_quo {t : TypeId} {x y : Operand} {q : IntKind} {a b : Int} (h : b ≠ 0) {w : World} {K : Value → World → Prop} : (std Try.prog).step (sBin .quo t x y (.int q a) (.int q b)) w K = K (.int q (q.wrap (a.tdiv b))) w := step_run (r_quo h)
theorem sx_quo {t : TypeId} {x y : Operand} {q : IntKind} {a b : Int} (h : b ≠ 0) {S : World → Prop} {k : Value → Prop} (hne : ∃ w, S w) : (std Try.prog).stepS S (sBin .quo t x y (.int q a) (.int q b)) k = k (.int q (q.wrap (a.tdiv b))) := stepS_run hne fun _ _ => r_quo h
theorem px_rem {t : TypeId} {x y : Operand} {q : IntKind} {a b : Int} (h : b ≠ 0) {w : World} {K : Value → World → Prop} : (std Try.prog).step (sBin .rem t x y (.int q a) (.int q b)) w K = K (.int q (a.tmod b)) w := step_run (r_rem h)
theorem sx_rem {t : TypeId} {x y : Operand} {q : IntKind} {a b : Int} (h : b ≠ 0) {S : World → Prop} {k : Value → Prop} (hne : ∃ w, S w) : (std Try.prog).stepS S (sBin .rem t x y (.int q a) (.int q b)) k = k (.int q (a.tmod b)) := stepS_run hne fun _ _ => r_rem h
theorem px_shl {t : TypeId} {x y : Operand} {q q' : IntKind} {a b : Int} (h : ¬ b < 0) {w : World} {K : Value → World → Prop} : (std Try.prog).step (sBin .shl t x y (.int q a) (.int q' b)) w K = K (.int q (q.wrap (a * 2 ^ (min b.toNat q.bits)))) w := step_run (r_shl h)
theorem sx_shl {t : TypeId} {x y : Operand} {q q' : IntKind} {a b : Int} (h : ¬ b < 0) {S : World → Prop} {k : Value → Prop} (hne : ∃ w, S w) : (std Try.prog).stepS S (sBin .shl t x y (.int q a) (.int q' b)) k = k (.int q (q.wrap (a * 2 ^ (min b.toNat q.bits)))) := stepS_run hne fun _ _ => r_shl h
theorem px_shr {t : TypeId} {x y : Operand} {q q' : IntKind} {a b : Int} (h : ¬ b < 0) {w : World} {K : Value → World → Prop} : (std Try.prog).step (sBin .shr t x y (.int q a) (.int q' b)) w K = K (.int q (a.fdiv (2 ^ (min b.toNat q.bits)))) w := step_run (r_shr h)
theorem sx_shr {t : TypeId} {x y : Operand} {q q' : IntKind} {a b : Int} (h : ¬ b < 0) {S : World → Prop} {k : Value → Prop} (hne : ∃ w, S w) : (std Try.prog).stepS S (sBin .shr t x y (.int q a) (.int q' b)) k = k (.int q (a.fdiv (2 ^ (min b.toNat q.bits)))) := stepS_run hne fun _ _ => r_shr h
theorem px_seql {t : TypeId} {x y : Operand} {a b : ByteArray}  {w : World} {K : Value → World → Prop} : (std Try.prog).step (sBin .eql t x y (.string a) (.string b)) w K = K (.bool (decide (a = b))) w := step_run (r_seql)
theorem sx_seql {t : TypeId} {x y : Operand} {a b : ByteArray}  {S : World → Prop} {k : Value → Prop} (hne : ∃ w, S w) : (std Try.prog).stepS S (sBin .eql t x y (.string a) (.string b)) k = k (.bool (decide (a = b))) := stepS_run hne fun _ _ => r_seql
theorem px_sneq {t : TypeId} {x y : Operand} {a b : ByteArray}  {w : World} {K : Value → World → Prop} : (std Try.prog).step (sBin .neq t x y (.string a) (.string b)) w K = K (.bool (!decide (a = b))) w := step_run (r_sneq)
theorem sx_sneq {t : TypeId} {x y : Operand} {a b : ByteArray}  {S : World → Prop} {k : Value → Prop} (hne : ∃ w, S w) : (std Try.prog).stepS S (sBin .neq t x y (.string a) (.string b)) k = k (.bool (!decide (a = b))) := stepS_run hne fun _ _ => r_sneq
theorem px_sadd {t : TypeId} {x y : Operand} {a b : ByteArray} (h : a.size + b.size ≤ 9223372036854775807) {w : World} {K : Value → World → Prop} : (std Try.prog).step (sBin .add t x y (.string a) (.string b)) w K = K (.string (a ++ b)) w := step_run (r_sadd h)
theorem sx_sadd {t : TypeId} {x y : Operand} {a b : ByteArray} (h : a.size + b.size ≤ 9223372036854775807) {S : World → Prop} {k : Value → Prop} (hne : ∃ w, S w) : (std Try.prog).stepS S (sBin .add t x y (.string a) (.string b)) k = k (.string (a ++ b)) := stepS_run hne fun _ _ => r_sadd h
theorem px_not {b : Bool}  {w : World} {K : Value → World → Prop} : (std Try.prog).step (sUn .not (.bool b)) w K = K (.bool (!b)) w := step_run (r_not)
theorem sx_not {b : Bool}  {S : World → Prop} {k : Value → Prop} (hne : ∃ w, S w) : (std Try.prog).stepS S (sUn .not (.bool b)) k = k (.bool (!b)) := stepS_run hne fun _ _ => r_not
theorem px_neg {q : IntKind} {a : Int}  {w : World} {K : Value → World → Prop} : (std Try.prog).step (sUn .neg (.int q a)) w K = K (.int q (q.wrap (0 - a))) w := step_run (r_neg)
theorem sx_neg {q : IntKind} {a : Int}  {S : World → Prop} {k : Value → Prop} (hne : ∃ w, S w) : (std Try.prog).stepS S (sUn .neg (.int q a)) k = k (.int q (q.wrap (0 - a))) := stepS_run hne fun _ _ => r_neg
theorem px_inv {q : IntKind} {a : Int}  {w : World} {K : Value → World → Prop} : (std Try.prog).step (sUn .xor (.int q a)) w K = K (.int q (bitOp .xor q (if q.signed then -1 else q.max) a)) w := step_run (r_inv)
theorem sx_inv {q : IntKind} {a : Int}  {S : World → Prop} {k : Value → Prop} (hne : ∃ w, S w) : (std Try.prog).stepS S (sUn .xor (.int q a)) k = k (.int q (bitOp .xor q (if q.signed then -1 else q.max) a)) := stepS_run hne fun _ _ => r_inv
theorem px_nilc {a : Addr}  {w : World} {K : Value → World → Prop} : (std Try.prog).step (sNil (.pointer (some a))) w K = K (.pointer (some a)) w := step_run (r_nil)
theorem sx_nilc {a : Addr}  {S : World → Prop} {k : Value → Prop} (hne : ∃ w, S w) : (std Try.prog).stepS S (sNil (.pointer (some a))) k = k (.pointer (some a)) := stepS_run hne fun _ _ => r_nil
theorem px_ext20 {a b : Value}  {w : World} {K : Value → World → Prop} : (std Try.prog).step (sExtract (.tuple #[a, b]) 0) w K = K (a) w := step_run (r_ext20)
theorem sx_ext20 {a b : Value}  {S : World → Prop} {k : Value → Prop} (hne : ∃ w, S w) : (std Try.prog).stepS S (sExtract (.tuple #[a, b]) 0) k = k (a) := stepS_run hne fun _ _ => r_ext20
theorem px_ext21 {a b : Value}  {w : World} {K : Value → World → Prop} : (std Try.prog).step (sExtract (.tuple #[a, b]) 1) w K = K (b) w := step_run (r_ext21)
theorem sx_ext21 {a b : Value}  {S : World → Prop} {k : Value → Prop} (hne : ∃ w, S w) : (std Try.prog).stepS S (sExtract (.tuple #[a, b]) 1) k = k (b) := stepS_run hne fun _ _ => r_ext21
theorem px_ext30 {a b c : Value}  {w : World} {K : Value → World → Prop} : (std Try.prog).step (sExtract (.tuple #[a, b, c]) 0) w K = K (a) w := step_run (r_ext30)
theorem sx_ext30 {a b c : Value}  {S : World → Prop} {k : Value → Prop} (hne : ∃ w, S w) : (std Try.prog).stepS S (sExtract (.tuple #[a, b, c]) 0) k = k (a) := stepS_run hne fun _ _ => r_ext30
theorem px_ext31 {a b c : Value}  {w : World} {K : Value → World → Prop} : (std Try.prog).step (sExtract (.tuple #[a, b, c]) 1) w K = K (b) w := step_run (r_ext31)
theorem sx_ext31 {a b c : Value}  {S : World → Prop} {k : Value → Prop} (hne : ∃ w, S w) : (std Try.prog).stepS S (sExtract (.tuple #[a, b, c]) 1) k = k (b) := stepS_run hne fun _ _ => r_ext31
theorem px_ext32 {a b c : Value}  {w : World} {K : Value → World → Prop} : (std Try.prog).step (sExtract (.tuple #[a, b, c]) 2) w K = K (c) w := step_run (r_ext32)
theorem sx_ext32 {a b c : Value}  {S : World → Prop} {k : Value → Prop} (hne : ∃ w, S w) : (std Try.prog).stepS S (sExtract (.tuple #[a, b, c]) 2) k = k (c) := stepS_run hne fun _ _ => r_ext32
theorem px_min {ats : Array TypeId} {ty : TypeId} {c : List Bool} {q : IntKind} {a b : Int}  {w : World} {K : Value → World → Prop} : (std Try.prog).step (sBuiltin .min ats ty c [.int q a, .int q b]) w K = K (.int q (if b < a then b else a)) w := step_run (r_min)
theorem sx_min {ats : Array TypeId} {ty : TypeId} {c : List Bool} {q : IntKind} {a b : Int}  {S : World → Prop} {k : Value → Prop} (hne : ∃ w, S w) : (std Try.prog).stepS S (sBuiltin .min ats ty c [.int q a, .int q b]) k = k (.int q (if b < a then b else a)) := stepS_run hne fun _ _ => r_min
theorem px_max {ats : Array TypeId} {ty : TypeId} {c : List Bool} {q : IntKind} {a b : Int}  {w : World} {K : Value → World → Prop} : (std Try.prog).step (sBuiltin .max ats ty c [.int q a, .int q b]) w K = K (.int q (if a < b then b else a)) w := step_run (r_max)
theorem sx_max {ats : Array TypeId} {ty : TypeId} {c : List Bool} {q : IntKind} {a b : Int}  {S : World → Prop} {k : Value → Prop} (hne : ∃ w, S w) : (std Try.prog).stepS S (sBuiltin .max ats ty c [.int q a, .int q b]) k = k (.int q (if a < b then b else a)) := stepS_run hne fun _ _ => r_max
theorem px_len22 {ty : TypeId} {c : List Bool} {A : Option Addr} {n m : Nat}  {w : World} {K : Value → World → Prop} : (std Try.prog).step (sBuiltin .len #[22] ty c [.slice A n m]) w K = K (.int .i64 n) w := step_run (r_lens u22)
theorem sx_len22 {ty : TypeId} {c : List Bool} {A : Option Addr} {n m : Nat}  {S : World → Prop} {k : Value → Prop} (hne : ∃ w, S w) : (std Try.prog).stepS S (sBuiltin .len #[22] ty c [.slice A n m]) k = k (.int .i64 n) := stepS_run hne fun _ _ => r_lens u22
theorem px_len32 {ty : TypeId} {c : List Bool} {A : Option Addr} {n m : Nat}  {w : World} {K : Value → World → Prop} : (std Try.prog).step (sBuiltin .len #[32] ty c [.slice A n m]) w K = K (.int .i64 n) w := step_run (r_lens u32)
theorem sx_len32 {ty : TypeId} {c : List Bool} {A : Option Addr} {n m : Nat}  {S : World → Prop} {k : Value → Prop} (hne : ∃ w, S w) : (std Try.prog).stepS S (sBuiltin .len #[32] ty c [.slice A n m]) k = k (.int .i64 n) := stepS_run hne fun _ _ => r_lens u32
theorem px_len45 {ty : TypeId} {c : List Bool} {A : Option Addr} {n m : Nat}  {w : World} {K : Value → World → Prop} : (std Try.prog).step (sBuiltin .len #[45] ty c [.slice A n m]) w K = K (.int .i64 n) w := step_run (r_lens u45)
theorem sx_len45 {ty : TypeId} {c : List Bool} {A : Option Addr} {n m : Nat}  {S : World → Prop} {k : Value → Prop} (hne : ∃ w, S w) : (std Try.prog).stepS S (sBuiltin .len #[45] ty c [.slice A n m]) k = k (.int .i64 n) := stepS_run hne fun _ _ => r_lens u45
theorem px_len9 {ty : TypeId} {c : List Bool} {s : ByteArray}  {w : World} {K : Value → World → Prop} : (std Try.prog).step (sBuiltin .len #[9] ty c [.string s]) w K = K (.int .i64 s.size) w := step_run (r_lenstr u9)
theorem sx_len9 {ty : TypeId} {c : List Bool} {s : ByteArray}  {S : World → Prop} {k : Value → Prop} (hne : ∃ w, S w) : (std Try.prog).stepS S (sBuiltin .len #[9] ty c [.string s]) k = k (.int .i64 s.size) := stepS_run hne fun _ _ => r_lenstr u9
theorem px_cv3_34 {q : IntKind} {n : Int}  {w : World} {K : Value → World → Prop} : (std Try.prog).step (sConv 3 34 (.int q n)) w K = K (.int .u64 (IntKind.wrap .u64 n)) w := step_run (r_conv u3 u34)
theorem sx_cv3_34 {q : IntKind} {n : Int}  {S : World → Prop} {k : Value → Prop} (hne : ∃ w, S w) : (std Try.prog).stepS S (sConv 3 34 (.int q n)) k = k (.int .u64 (IntKind.wrap .u64 n)) := stepS_run hne fun _ _ => r_conv u3 u34
theorem px_cv3_39 {q : IntKind} {n : Int}  {w : World} {K : Value → World → Prop} : (std Try.prog).step (sConv 3 39 (.int q n)) w K = K (.int .u64 (IntKind.wrap .u64 n)) w := step_run (r_conv u3 u39)
theorem sx_cv3_39 {q : IntKind} {n : Int}  {S : World → Prop} {k : Value → Prop} (hne : ∃ w, S w) : (std Try.prog).stepS S (sConv 3 39 (.int q n)) k = k (.int .u64 (IntKind.wrap .u64 n)) := stepS_run hne fun _ _ => r_conv u3 u39
theorem px_cv34_3 {q : IntKind} {n : Int}  {w : World} {K : Value → World → Prop} : (std Try.prog).step (sConv 34 3 (.int q n)) w K = K (.int .i64 (IntKind.wrap .i64 n)) w := step_run (r_conv u34 u3)
theorem sx_cv34_3 {q : IntKind} {n : Int}  {S : World → Prop} {k : Value → Prop} (hne : ∃ w, S w) : (std Try.prog).stepS S (sConv 34 3 (.int q n)) k = k (.int .i64 (IntKind.wrap .i64 n)) := stepS_run hne fun _ _ => r_conv u34 u3
theorem px_cv34_5 {q : IntKind} {n : Int}  {w : World} {K : Value → World → Prop} : (std Try.prog).step (sConv 34 5 (.int q n)) w K = K (.int .u8 (IntKind.wrap .u8 n)) w := step_run (r_conv u34 u5)
theorem sx_cv34_5 {q : IntKind} {n : Int}  {S : World → Prop} {k : Value → Prop} (hne : ∃ w, S w) : (std Try.prog).stepS S (sConv 34 5 (.int q n)) k = k (.int .u8 (IntKind.wrap .u8 n)) := stepS_run hne fun _ _ => r_conv u34 u5
theorem px_cv34_53 {q : IntKind} {n : Int}  {w : World} {K : Value → World → Prop} : (std Try.prog).step (sConv 34 53 (.int q n)) w K = K (.int .u16 (IntKind.wrap .u16 n)) w := step_run (r_conv u34 u53)
theorem sx_cv34_53 {q : IntKind} {n : Int}  {S : World → Prop} {k : Value → Prop} (hne : ∃ w, S w) : (std Try.prog).stepS S (sConv 34 53 (.int q n)) k = k (.int .u16 (IntKind.wrap .u16 n)) := stepS_run hne fun _ _ => r_conv u34 u53
theorem px_cv34_55 {q : IntKind} {n : Int}  {w : World} {K : Value → World → Prop} : (std Try.prog).step (sConv 34 55 (.int q n)) w K = K (.int .u32 (IntKind.wrap .u32 n)) w := step_run (r_conv u34 u55)
theorem sx_cv34_55 {q : IntKind} {n : Int}  {S : World → Prop} {k : Value → Prop} (hne : ∃ w, S w) : (std Try.prog).stepS S (sConv 34 55 (.int q n)) k = k (.int .u32 (IntKind.wrap .u32 n)) := stepS_run hne fun _ _ => r_conv u34 u55
theorem px_cv39_3 {q : IntKind} {n : Int}  {w : World} {K : Value → World → Prop} : (std Try.prog).step (sConv 39 3 (.int q n)) w K = K (.int .i64 (IntKind.wrap .i64 n)) w := step_run (r_conv u39 u3)
theorem sx_cv39_3 {q : IntKind} {n : Int}  {S : World → Prop} {k : Value → Prop} (hne : ∃ w, S w) : (std Try.prog).stepS S (sConv 39 3 (.int q n)) k = k (.int .i64 (IntKind.wrap .i64 n)) := stepS_run hne fun _ _ => r_conv u39 u3
theorem px_cv5_34 {q : IntKind} {n : Int}  {w : World} {K : Value → World → Prop} : (std Try.prog).step (sConv 5 34 (.int q n)) w K = K (.int .u64 (IntKind.wrap .u64 n)) w := step_run (r_conv u5 u34)
theorem sx_cv5_34 {q : IntKind} {n : Int}  {S : World → Prop} {k : Value → Prop} (hne : ∃ w, S w) : (std Try.prog).stepS S (sConv 5 34 (.int q n)) k = k (.int .u64 (IntKind.wrap .u64 n)) := stepS_run hne fun _ _ => r_conv u5 u34
theorem px_cv53_34 {q : IntKind} {n : Int}  {w : World} {K : Value → World → Prop} : (std Try.prog).step (sConv 53 34 (.int q n)) w K = K (.int .u64 (IntKind.wrap .u64 n)) w := step_run (r_conv u53 u34)
theorem sx_cv53_34 {q : IntKind} {n : Int}  {S : World → Prop} {k : Value → Prop} (hne : ∃ w, S w) : (std Try.prog).stepS S (sConv 53 34 (.int q n)) k = k (.int .u64 (IntKind.wrap .u64 n)) := stepS_run hne fun _ _ => r_conv u53 u34
theorem px_cv55_34 {q : IntKind} {n : Int}  {w : World} {K : Value → World → Prop} : (std Try.prog).step (sConv 55 34 (.int q n)) w K = K (.int .u64 (IntKind.wrap .u64 n)) w := step_run (r_conv u55 u34)
theorem sx_cv55_34 {q : IntKind} {n : Int}  {S : World → Prop} {k : Value → Prop} (hne : ∃ w, S w) : (std Try.prog).stepS S (sConv 55 34 (.int q n)) k = k (.int .u64 (IntKind.wrap .u64 n)) := stepS_run hne fun _ _ => r_conv u55 u34
theorem px_fa36_0 {a : Addr}  {w : World} {K : Value → World → Prop} : (std Try.prog).step (sFieldAddr 36 (.pointer (some a)) 0) w K = K (.pointer (some (a))) w := step_run (rfa36_0)
theorem sx_fa36_0 {a : Addr}  {S : World → Prop} {k : Value → Prop} (hne : ∃ w, S w) : (std Try.prog).stepS S (sFieldAddr 36 (.pointer (some a)) 0) k = k (.pointer (some (a))) := stepS_run hne fun _ _ => rfa36_0
theorem px_fa36_1 {a : Addr}  {w : World} {K : Value → World → Prop} : (std Try.prog).step (sFieldAddr 36 (.pointer (some a)) 1) w K = K (.pointer (some (a.add 1))) w := step_run (rfa36_1)
theorem sx_fa36_1 {a : Addr}  {S : World → Prop} {k : Value → Prop} (hne : ∃ w, S w) : (std Try.prog).stepS S (sFieldAddr 36 (.pointer (some a)) 1) k = k (.pointer (some (a.add 1))) := stepS_run hne fun _ _ => rfa36_1
theorem px_fa36_2 {a : Addr}  {w : World} {K : Value → World → Prop} : (std Try.prog).step (sFieldAddr 36 (.pointer (some a)) 2) w K = K (.pointer (some (a.add 2))) w := step_run (rfa36_2)
theorem sx_fa36_2 {a : Addr}  {S : World → Prop} {k : Value → Prop} (hne : ∃ w, S w) : (std Try.prog).stepS S (sFieldAddr 36 (.pointer (some a)) 2) k = k (.pointer (some (a.add 2))) := stepS_run hne fun _ _ => rfa36_2
theorem px_fa48_0 {a : Addr}  {w : World} {K : Value → World → Prop} : (std Try.prog).step (sFieldAddr 48 (.pointer (some a)) 0) w K = K (.pointer (some (a))) w := step_run (rfa48_0)
theorem sx_fa48_0 {a : Addr}  {S : World → Prop} {k : Value → Prop} (hne : ∃ w, S w) : (std Try.prog).stepS S (sFieldAddr 48 (.pointer (some a)) 0) k = k (.pointer (some (a))) := stepS_run hne fun _ _ => rfa48_0
theorem px_fa48_1 {a : Addr}  {w : World} {K : Value → World → Prop} : (std Try.prog).step (sFieldAddr 48 (.pointer (some a)) 1) w K = K (.pointer (some (a.add 1))) w := step_run (rfa48_1)
theorem sx_fa48_1 {a : Addr}  {S : World → Prop} {k : Value → Prop} (hne : ∃ w, S w) : (std Try.prog).stepS S (sFieldAddr 48 (.pointer (some a)) 1) k = k (.pointer (some (a.add 1))) := stepS_run hne fun _ _ => rfa48_1
theorem px_fa48_2 {a : Addr}  {w : World} {K : Value → World → Prop} : (std Try.prog).step (sFieldAddr 48 (.pointer (some a)) 2) w K = K (.pointer (some (a.add 2))) w := step_run (rfa48_2)
theorem sx_fa48_2 {a : Addr}  {S : World → Prop} {k : Value → Prop} (hne : ∃ w, S w) : (std Try.prog).stepS S (sFieldAddr 48 (.pointer (some a)) 2) k = k (.pointer (some (a.add 2))) := stepS_run hne fun _ _ => rfa48_2
theorem px_fa50_0 {a : Addr}  {w : World} {K : Value → World → Prop} : (std Try.prog).step (sFieldAddr 50 (.pointer (some a)) 0) w K = K (.pointer (some (a))) w := step_run (rfa50_0)
theorem sx_fa50_0 {a : Addr}  {S : World → Prop} {k : Value → Prop} (hne : ∃ w, S w) : (std Try.prog).stepS S (sFieldAddr 50 (.pointer (some a)) 0) k = k (.pointer (some (a))) := stepS_run hne fun _ _ => rfa50_0
theorem px_fa50_1 {a : Addr}  {w : World} {K : Value → World → Prop} : (std Try.prog).step (sFieldAddr 50 (.pointer (some a)) 1) w K = K (.pointer (some (a.add 1))) w := step_run (rfa50_1)
theorem sx_fa50_1 {a : Addr}  {S : World → Prop} {k : Value → Prop} (hne : ∃ w, S w) : (std Try.prog).stepS S (sFieldAddr 50 (.pointer (some a)) 1) k = k (.pointer (some (a.add 1))) := stepS_run hne fun _ _ => rfa50_1
theorem px_fa65_0 {a : Addr}  {w : World} {K : Value → World → Prop} : (std Try.prog).step (sFieldAddr 65 (.pointer (some a)) 0) w K = K (.pointer (some (a))) w := step_run (rfa65_0)
theorem sx_fa65_0 {a : Addr}  {S : World → Prop} {k : Value → Prop} (hne : ∃ w, S w) : (std Try.prog).stepS S (sFieldAddr 65 (.pointer (some a)) 0) k = k (.pointer (some (a))) := stepS_run hne fun _ _ => rfa65_0
theorem px_fa67_0 {a : Addr}  {w : World} {K : Value → World → Prop} : (std Try.prog).step (sFieldAddr 67 (.pointer (some a)) 0) w K = K (.pointer (some (a))) w := step_run (rfa67_0)
theorem sx_fa67_0 {a : Addr}  {S : World → Prop} {k : Value → Prop} (hne : ∃ w, S w) : (std Try.prog).stepS S (sFieldAddr 67 (.pointer (some a)) 0) k = k (.pointer (some (a))) := stepS_run hne fun _ _ => rfa67_0
theorem px_fa67_1 {a : Addr}  {w : World} {K : Value → World → Prop} : (std Try.prog).step (sFieldAddr 67 (.pointer (some a)) 1) w K = K (.pointer (some (a.add 1))) w := step_run (rfa67_1)
theorem sx_fa67_1 {a : Addr}  {S : World → Prop} {k : Value → Prop} (hne : ∃ w, S w) : (std Try.prog).stepS S (sFieldAddr 67 (.pointer (some a)) 1) k = k (.pointer (some (a.add 1))) := stepS_run hne fun _ _ => rfa67_1
theorem px_fa71_0 {a : Addr}  {w : World} {K : Value → World → Prop} : (std Try.prog).step (sFieldAddr 71 (.pointer (some a)) 0) w K = K (.pointer (some (a))) w := step_run (rfa71_0)
theorem sx_fa71_0 {a : Addr}  {S : World → Prop} {k : Value → Prop} (hne : ∃ w, S w) : (std Try.prog).stepS S (sFieldAddr 71 (.pointer (some a)) 0) k = k (.pointer (some (a))) := stepS_run hne fun _ _ => rfa71_0
theorem px_ix22 {a : Addr} {n c i : Nat} (h : i < n) {w : World} {K : Value → World → Prop} : (std Try.prog).step (sIndexAddr 22 (.slice (some a) n c) (.int .i64 (i : Nat))) w K = K (.pointer (some (a.add (i)))) w := step_run (rix22 h)
theorem sx_ix22 {a : Addr} {n c i : Nat} (h : i < n) {S : World → Prop} {k : Value → Prop} (hne : ∃ w, S w) : (std Try.prog).stepS S (sIndexAddr 22 (.slice (some a) n c) (.int .i64 (i : Nat))) k = k (.pointer (some (a.add (i)))) := stepS_run hne fun _ _ => rix22 h
theorem px_ix32 {a : Addr} {n c i : Nat} (h : i < n) {w : World} {K : Value → World → Prop} : (std Try.prog).step (sIndexAddr 32 (.slice (some a) n c) (.int .i64 (i : Nat))) w K = K (.pointer (some (a.add (i * 3)))) w := step_run (rix32 h)
theorem sx_ix32 {a : Addr} {n c i : Nat} (h : i < n) {S : World → Prop} {k : Value → Prop} (hne : ∃ w, S w) : (std Try.prog).stepS S (sIndexAddr 32 (.slice (some a) n c) (.int .i64 (i : Nat))) k = k (.pointer (some (a.add (i * 3)))) := stepS_run hne fun _ _ => rix32 h
theorem px_ix45 {a : Addr} {n c i : Nat} (h : i < n) {w : World} {K : Value → World → Prop} : (std Try.prog).step (sIndexAddr 45 (.slice (some a) n c) (.int .i64 (i : Nat))) w K = K (.pointer (some (a.add (i * 2)))) w := step_run (rix45 h)
theorem sx_ix45 {a : Addr} {n c i : Nat} (h : i < n) {S : World → Prop} {k : Value → Prop} (hne : ∃ w, S w) : (std Try.prog).stepS S (sIndexAddr 45 (.slice (some a) n c) (.int .i64 (i : Nat))) k = k (.pointer (some (a.add (i * 2)))) := stepS_run hne fun _ _ => rix45 h
theorem px_ix79 {a : Addr} {n c i : Nat} (h : i < n) {w : World} {K : Value → World → Prop} : (std Try.prog).step (sIndexAddr 79 (.slice (some a) n c) (.int .i64 (i : Nat))) w K = K (.pointer (some (a.add (i)))) w := step_run (rix79 h)
theorem sx_ix79 {a : Addr} {n c i : Nat} (h : i < n) {S : World → Prop} {k : Value → Prop} (hne : ∃ w, S w) : (std Try.prog).stepS S (sIndexAddr 79 (.slice (some a) n c) (.int .i64 (i : Nat))) k = k (.pointer (some (a.add (i)))) := stepS_run hne fun _ _ => rix79 h
/-- the rules for single steps, all at once -/
theorem PX : (∀ {t : TypeId} {x y : Operand} {q : IntKind} {a b : Int}  {w : World} {K : Value → World → Prop}, (std Try.prog).step (sBin .add t x y (.int q a) (.int q b)) w K = K (.int q (q.wrap (a + b))) w) ∧
  (∀ {t : TypeId} {x y : Operand} {q : IntKind} {a b : Int}  {w : World} {K : Value → World → Prop}, (std Try.prog).step (sBin .sub t x y (.int q a) (.int q b)) w K = K (.int q (q.wrap (a - b))) w) ∧
  (∀ {t : TypeId} {x y : Operand} {q : IntKind} {a b : Int}  {w : World} {K : Value → World → Prop}, (std Try.prog).step (sBin .mul t x y (.int q a) (.int q b)) w K = K (.int q (q.wrap (a * b))) w) ∧
  (∀ {t : TypeId} {x y : Operand} {q : IntKind} {a b : Int}  {w : World} {K : Value → World → Prop}, (std Try.prog).step (sBin .and t x y (.int q a) (.int q b)) w K = K (.int q (bitOp .and q a b)) w) ∧
  (∀ {t : TypeId} {x y : Operand} {q : IntKind} {a b : Int}  {w : World} {K : Value → World → Prop}, (std Try.prog).step (sBin .or t x y (.int q a) (.int q b)) w K = K (.int q (bitOp .or q a b)) w) ∧
  (∀ {t : TypeId} {x y : Operand} {q : IntKind} {a b : Int}  {w : World} {K : Value → World → Prop}, (std Try.prog).step (sBin .xor t x y (.int q a) (.int q b)) w K = K (.int q (bitOp .xor q a b)) w) ∧
  (∀ {t : TypeId} {x y : Operand} {q : IntKind} {a b : Int}  {w : World} {K : Value → World → Prop}, (std Try.prog).step (sBin .lss t x y (.int q a) (.int q b)) w K = K (.bool (decide (a < b))) w) ∧
  (∀ {t : TypeId} {x y : Operand} {q : IntKind} {a b : Int}  {w : World} {K : Value → World → Prop}, (std Try.prog).step (sBin .leq t x y (.int q a) (.int q b)) w K = K (.bool (decide (a ≤ b))) w) ∧
  (∀ {t : TypeId} {x y : Operand} {q : IntKind} {a b : Int}  {w : World} {K : Value → World → Prop}, (std Try.prog).step (sBin .gtr t x y (.int q a) (.int q b)) w K = K (.bool (decide (b < a))) w) ∧
  (∀ {t : TypeId} {x y : Operand} {q : IntKind} {a b : Int}  {w : World} {K : Value → World → Prop}, (std Try.prog).step (sBin .geq t x y (.int q a) (.int q b)) w K = K (.bool (decide (b ≤ a))) w) ∧
  (∀ {t : TypeId} {x y : Operand} {q : IntKind} {a b : Int}  {w : World} {K : Value → World → Prop}, (std Try.prog).step (sBin .eql t x y (.int q a) (.int q b)) w K = K (.bool (decide (a = b))) w) ∧
  (∀ {t : TypeId} {x y : Operand} {q : IntKind} {a b : Int}  {w : World} {K : Value → World → Prop}, (std Try.prog).step (sBin .neq t x y (.int q a) (.int q b)) w K = K (.bool (decide (a ≠ b))) w) ∧
  (∀ {t : TypeId} {x y : Operand} {q : IntKind} {a b : Int} (h : b ≠ 0) {w : World} {K : Value → World → Prop}, (std Try.prog).step (sBin .quo t x y (.int q a) (.int q b)) w K = K (.int q (q.wrap (a.tdiv b))) w) ∧
  (∀ {t : TypeId} {x y : Operand} {q : IntKind} {a b : Int} (h : b ≠ 0) {w : World} {K : Value → World → Prop}, (std Try.prog).step (sBin .rem t x y (.int q a) (.int q b)) w K = K (.int q (a.tmod b)) w) ∧
  (∀ {t : TypeId} {x y : Operand} {q q' : IntKind} {a b : Int} (h : ¬ b < 0) {w : World} {K : Value → World → Prop}, (std Try.prog).step (sBin .shl t x y (.int q a) (.int q' b)) w K = K (.int q (q.wrap (a * 2 ^ (min b.toNat q.bits)))) w) ∧
  (∀ {t : TypeId} {x y : Operand} {q q' : IntKind} {a b : Int} (h : ¬ b < 0) {w : World} {K : Value → World → Prop}, (std Try.prog).step (sBin .shr t x y (.int q a) (.int q' b)) w K = K (.int q (a.fdiv (2 ^ (min b.toNat q.bits)))) w) ∧
  (∀ {t : TypeId} {x y : Operand} {a b : ByteArray}  {w : World} {K : Value → World → Prop}, (std Try.prog).step (sBin .eql t x y (.string a) (.string b)) w K = K (.bool (decide (a = b))) w) ∧
  (∀ {t : TypeId} {x y : Operand} {a b : ByteArray}  {w : World} {K : Value → World → Prop}, (std Try.prog).step (sBin .neq t x y (.string a) (.string b)) w K = K (.bool (!decide (a = b))) w) ∧
  (∀ {t : TypeId} {x y : Operand} {a b : ByteArray} (h : a.size + b.size ≤ 9223372036854775807) {w : World} {K : Value → World → Prop}, (std Try.prog).step (sBin .add t x y (.string a) (.string b)) w K = K (.string (a ++ b)) w) ∧
  (∀ {b : Bool}  {w : World} {K : Value → World → Prop}, (std Try.prog).step (sUn .not (.bool b)) w K = K (.bool (!b)) w) ∧
  (∀ {q : IntKind} {a : Int}  {w : World} {K : Value → World → Prop}, (std Try.prog).step (sUn .neg (.int q a)) w K = K (.int q (q.wrap (0 - a))) w) ∧
  (∀ {q : IntKind} {a : Int}  {w : World} {K : Value → World → Prop}, (std Try.prog).step (sUn .xor (.int q a)) w K = K (.int q (bitOp .xor q (if q.signed then -1 else q.max) a)) w) ∧
  (∀ {a : Addr}  {w : World} {K : Value → World → Prop}, (std Try.prog).step (sNil (.pointer (some a))) w K = K (.pointer (some a)) w) ∧
  (∀ {a b : Value}  {w : World} {K : Value → World → Prop}, (std Try.prog).step (sExtract (.tuple #[a, b]) 0) w K = K (a) w) ∧
  (∀ {a b : Value}  {w : World} {K : Value → World → Prop}, (std Try.prog).step (sExtract (.tuple #[a, b]) 1) w K = K (b) w) ∧
  (∀ {a b c : Value}  {w : World} {K : Value → World → Prop}, (std Try.prog).step (sExtract (.tuple #[a, b, c]) 0) w K = K (a) w) ∧
  (∀ {a b c : Value}  {w : World} {K : Value → World → Prop}, (std Try.prog).step (sExtract (.tuple #[a, b, c]) 1) w K = K (b) w) ∧
  (∀ {a b c : Value}  {w : World} {K : Value → World → Prop}, (std Try.prog).step (sExtract (.tuple #[a, b, c]) 2) w K = K (c) w) ∧
  (∀ {ats : Array TypeId} {ty : TypeId} {c : List Bool} {q : IntKind} {a b : Int}  {w : World} {K : Value → World → Prop}, (std Try.prog).step (sBuiltin .min ats ty c [.int q a, .int q b]) w K = K (.int q (if b < a then b else a)) w) ∧
  (∀ {ats : Array TypeId} {ty : TypeId} {c : List Bool} {q : IntKind} {a b : Int}  {w : World} {K : Value → World → Prop}, (std Try.prog).step (sBuiltin .max ats ty c [.int q a, .int q b]) w K = K (.int q (if a < b then b else a)) w) ∧
  (∀ {ty : TypeId} {c : List Bool} {A : Option Addr} {n m : Nat}  {w : World} {K : Value → World → Prop}, (std Try.prog).step (sBuiltin .len #[22] ty c [.slice A n m]) w K = K (.int .i64 n) w) ∧
  (∀ {ty : TypeId} {c : List Bool} {A : Option Addr} {n m : Nat}  {w : World} {K : Value → World → Prop}, (std Try.prog).step (sBuiltin .len #[32] ty c [.slice A n m]) w K = K (.int .i64 n) w) ∧
  (∀ {ty : TypeId} {c : List Bool} {A : Option Addr} {n m : Nat}  {w : World} {K : Value → World → Prop}, (std Try.prog).step (sBuiltin .len #[45] ty c [.slice A n m]) w K = K (.int .i64 n) w) ∧
  (∀ {ty : TypeId} {c : List Bool} {s : ByteArray}  {w : World} {K : Value → World → Prop}, (std Try.prog).step (sBuiltin .len #[9] ty c [.string s]) w K = K (.int .i64 s.size) w) ∧
  (∀ {q : IntKind} {n : Int}  {w : World} {K : Value → World → Prop}, (std Try.prog).step (sConv 3 34 (.int q n)) w K = K (.int .u64 (IntKind.wrap .u64 n)) w) ∧
  (∀ {q : IntKind} {n : Int}  {w : World} {K : Value → World → Prop}, (std Try.prog).step (sConv 3 39 (.int q n)) w K = K (.int .u64 (IntKind.wrap .u64 n)) w) ∧
  (∀ {q : IntKind} {n : Int}  {w : World} {K : Value → World → Prop}, (std Try.prog).step (sConv 34 3 (.int q n)) w K = K (.int .i64 (IntKind.wrap .i64 n)) w) ∧
  (∀ {q : IntKind} {n : Int}  {w : World} {K : Value → World → Prop}, (std Try.prog).step (sConv 34 5 (.int q n)) w K = K (.int .u8 (IntKind.wrap .u8 n)) w) ∧
  (∀ {q : IntKind} {n : Int}  {w : World} {K : Value → World → Prop}, (std Try.prog).step (sConv 34 53 (.int q n)) w K = K (.int .u16 (IntKind.wrap .u16 n)) w) ∧
  (∀ {q : IntKind} {n : Int}  {w : World} {K : Value → World → Prop}, (std Try.prog).step (sConv 34 55 (.int q n)) w K = K (.int .u32 (IntKind.wrap .u32 n)) w) ∧
  (∀ {q : IntKind} {n : Int}  {w : World} {K : Value → World → Prop}, (std Try.prog).step (sConv 39 3 (.int q n)) w K = K (.int .i64 (IntKind.wrap .i64 n)) w) ∧
  (∀ {q : IntKind} {n : Int}  {w : World} {K : Value → World → Prop}, (std Try.prog).step (sConv 5 34 (.int q n)) w K = K (.int .u64 (IntKind.wrap .u64 n)) w) ∧
  (∀ {q : IntKind} {n : Int}  {w : World} {K : Value → World → Prop}, (std Try.prog).step (sConv 53 34 (.int q n)) w K = K (.int .u64 (IntKind.wrap .u64 n)) w) ∧
  (∀ {q : IntKind} {n : Int}  {w : World} {K : Value → World → Prop}, (std Try.prog).step (sConv 55 34 (.int q n)) w K = K (.int .u64 (IntKind.wrap .u64 n)) w) ∧
  (∀ {a : Addr}  {w : World} {K : Value → World → Prop}, (std Try.prog).step (sFieldAddr 36 (.pointer (some a)) 0) w K = K (.pointer (some (a))) w) ∧
  (∀ {a : Addr}  {w : World} {K : Value → World → Prop}, (std Try.prog).step (sFieldAddr 36 (.pointer (some a)) 1) w K = K (.pointer (some (a.add 1))) w) ∧
  (∀ {a : Addr}  {w : World} {K : Value → World → Prop}, (std Try.prog).step (sFieldAddr 36 (.pointer (some a)) 2) w K = K (.pointer (some (a.add 2))) w) ∧
  (∀ {a : Addr}  {w : World} {K : Value → World → Prop}, (std Try.prog).step (sFieldAddr 48 (.pointer (some a)) 0) w K = K (.pointer (some (a))) w) ∧
  (∀ {a : Addr}  {w : World} {K : Value → World → Prop}, (std Try.prog).step (sFieldAddr 48 (.pointer (some a)) 1) w K = K (.pointer (some (a.add 1))) w) ∧
  (∀ {a : Addr}  {w : World} {K : Value → World → Prop}, (std Try.prog).step (sFieldAddr 48 (.pointer (some a)) 2) w K = K (.pointer (some (a.add 2))) w) ∧
  (∀ {a : Addr}  {w : World} {K : Value → World → Prop}, (std Try.prog).step (sFieldAddr 50 (.pointer (some a)) 0) w K = K (.pointer (some (a))) w) ∧
  (∀ {a : Addr}  {w : World} {K : Value → World → Prop}, (std Try.prog).step (sFieldAddr 50 (.pointer (some a)) 1) w K = K (.pointer (some (a.add 1))) w) ∧
  (∀ {a : Addr}  {w : World} {K : Value → World → Prop}, (std Try.prog).step (sFieldAddr 65 (.pointer (some a)) 0) w K = K (.pointer (some (a))) w) ∧
  (∀ {a : Addr}  {w : World} {K : Value → World → Prop}, (std Try.prog).step (sFieldAddr 67 (.pointer (some a)) 0) w K = K (.pointer (some (a))) w) ∧
  (∀ {a : Addr}  {w : World} {K : Value → World → Prop}, (std Try.prog).step (sFieldAddr 67 (.pointer (some a)) 1) w K = K (.pointer (some (a.add 1))) w) ∧
  (∀ {a : Addr}  {w : World} {K : Value → World → Prop}, (std Try.prog).step (sFieldAddr 71 (.pointer (some a)) 0) w K = K (.pointer (some (a))) w) ∧
  (∀ {a : Addr} {n c i : Nat} (h : i < n) {w : World} {K : Value → World → Prop}, (std Try.prog).step (sIndexAddr 22 (.slice (some a) n c) (.int .i64 (i : Nat))) w K = K (.pointer (some (a.add (i)))) w) ∧
  (∀ {a : Addr} {n c i : Nat} (h : i < n) {w : World} {K : Value → World → Prop}, (std Try.prog).step (sIndexAddr 32 (.slice (some a) n c) (.int .i64 (i : Nat))) w K = K (.pointer (some (a.add (i * 3)))) w) ∧
  (∀ {a : Addr} {n c i : Nat} (h : i < n) {w : World} {K : Value → World → Prop}, (std Try.prog).step (sIndexAddr 45 (.slice (some a) n c) (.int .i64 (i : Nat))) w K = K (.pointer (some (a.add (i * 2)))) w) ∧
  (∀ {a : Addr} {n c i : Nat} (h : i < n) {w : World} {K : Value → World → Prop}, (std Try.prog).step (sIndexAddr 79 (.slice (some a) n c) (.int .i64 (i : Nat))) w K = K (.pointer (some (a.add (i)))) w) := ⟨@px_add, @px_sub, @px_mul, @px_and, @px_or, @px_xor, @px_lss, @px_leq, @px_gtr, @px_geq, @px_eql, @px_neq, @px_quo, @px_rem, @px_shl, @px_shr, @px_seql, @px_sneq, @px_sadd, @px_not, @px_neg, @px_inv, @px_nilc, @px_ext20, @px_ext21, @px_ext30, @px_ext31, @px_ext32, @px_min, @px_max, @px_len22, @px_len32, @px_len45, @px_len9, @px_cv3_34, @px_cv3_39, @px_cv34_3, @px_cv34_5, @px_cv34_53, @px_cv34_55, @px_cv39_3, @px_cv5_34, @px_cv53_34, @px_cv55_34, @px_fa36_0, @px_fa36_1, @px_fa36_2, @px_fa48_0, @px_fa48_1, @px_fa48_2, @px_fa50_0, @px_fa50_1, @px_fa65_0, @px_fa67_0, @px_fa67_1, @px_fa71_0, @px_ix22, @px_ix32, @px_ix45, @px_ix79⟩
theorem SX : (∀ {t : TypeId} {x y : Operand} {q : IntKind} {a b : Int}  {S : World → Prop} {k : Value → Prop} (hne : ∃ w, S w), (std Try.prog).stepS S (sBin .add t x y (.int q a) (.int q b)) k = k (.int q (q.wrap (a + b)))) ∧
  (∀ {t : TypeId} {x y : Operand} {q : IntKind} {a b : Int}  {S : World → Prop} {k : Value → Prop} (hne : ∃ w, S w), (std Try.prog).stepS S (sBin .sub t x y (.int q a) (.int q b)) k = k (.int q (q.wrap (a - b)))) ∧
  (∀ {t : TypeId} {x y : Operand} {q : IntKind} {a b : Int}  {S : World → Prop} {k : Value → Prop} (hne : ∃ w, S w), (std Try.prog).stepS S (sBin .mul t x y (.int q a) (.int q b)) k = k (.int q (q.wrap (a * b)))) ∧
  (∀ {t : TypeId} {x y : Operand} {q : IntKind} {a b : Int}  {S : World → Prop} {k : Value → Prop} (hne : ∃ w, S w), (std Try.prog).stepS S (sBin .and t x y (.int q a) (.int q b)) k = k (.int q (bitOp .and q a b))) ∧
  (∀ {t : TypeId} {x y : Operand} {q : IntKind} {a b : Int}  {S : World → Prop} {k : Value → Prop} (hne : ∃ w, S w), (std Try.prog).stepS S (sBin .or t x y (.int q a) (.int q b)) k = k (.int q (bitOp .or q a b))) ∧
  (∀ {t : TypeId} {x y : Operand} {q : IntKind} {a b : Int}  {S : World → Prop} {k : Value → Prop} (hne : ∃ w, S w), (std Try.prog).stepS S (sBin .xor t x y (.int q a) (.int q b)) k = k (.int q (bitOp .xor q a b))) ∧
  (∀ {t : TypeId} {x y : Operand} {q : IntKind} {a b : Int}  {S : World → Prop} {k : Value → Prop} (hne : ∃ w, S w), (std Try.prog).stepS S (sBin .lss t x y (.int q a) (.int q b)) k = k (.bool (decide (a < b)))) ∧
  (∀ {t : TypeId} {x y : Operand} {q : IntKind} {a b : Int}  {S : World → Prop} {k : Value → Prop} (hne : ∃ w, S w), (std Try.prog).stepS S (sBin .leq t x y (.int q a) (.int q b)) k = k (.bool (decide (a ≤ b)))) ∧
  (∀ {t : TypeId} {x y : Operand} {q : IntKind} {a b : Int}  {S : World → Prop} {k : Value → Prop} (hne : ∃ w, S w), (std Try.prog).stepS S (sBin .gtr t x y (.int q a) (.int q b)) k = k (.bool (decide (b < a)))) ∧
  (∀ {t : TypeId} {x y : Operand} {q : IntKind} {a b : Int}  {S : World → Prop} {k : Value → Prop} (hne : ∃ w, S w), (std Try.prog).stepS S (sBin .geq t x y (.int q a) (.int q b)) k = k (.bool (decide (b ≤ a)))) ∧
  (∀ {t : TypeId} {x y : Operand} {q : IntKind} {a b : Int}  {S : World → Prop} {k : Value → Prop} (hne : ∃ w, S w), (std Try.prog).stepS S (sBin .eql t x y (.int q a) (.int q b)) k = k (.bool (decide (a = b)))) ∧
  (∀ {t : TypeId} {x y : Operand} {q : IntKind} {a b : Int}  {S : World → Prop} {k : Value → Prop} (hne : ∃ w, S w), (std Try.prog).stepS S (sBin .neq t x y (.int q a) (.int q b)) k = k (.bool (decide (a ≠ b)))) ∧
  (∀ {t : TypeId} {x y : Operand} {q : IntKind} {a b : Int} (h : b ≠ 0) {S : World → Prop} {k : Value → Prop} (hne : ∃ w, S w), (std Try.prog).stepS S (sBin .quo t x y (.int q a) (.int q b)) k = k (.int q (q.wrap (a.tdiv b)))) ∧
  (∀ {t : TypeId} {x y : Operand} {q : IntKind} {a b : Int} (h : b ≠ 0) {S : World → Prop} {k : Value → Prop} (hne : ∃ w, S w), (std Try.prog).stepS S (sBin .rem t x y (.int q a) (.int q b)) k = k (.int q (a.tmod b))) ∧
  (∀ {t : TypeId} {x y : Operand} {q q' : IntKind} {a b : Int} (h : ¬ b < 0) {S : World → Prop} {k : Value → Prop} (hne : ∃ w, S w), (std Try.prog).stepS S (sBin .shl t x y (.int q a) (.int q' b)) k = k (.int q (q.wrap (a * 2 ^ (min b.toNat q.bits))))) ∧
  (∀ {t : TypeId} {x y : Operand} {q q' : IntKind} {a b : Int} (h : ¬ b < 0) {S : World → Prop} {k : Value → Prop} (hne : ∃ w, S w), (std Try.prog).stepS S (sBin .shr t x y (.int q a) (.int q' b)) k = k (.int q (a.fdiv (2 ^ (min b.toNat q.bits))))) ∧
  (∀ {t : TypeId} {x y : Operand} {a b : ByteArray}  {S : World → Prop} {k : Value → Prop} (hne : ∃ w, S w), (std Try.prog).stepS S (sBin .eql t x y (.string a) (.string b)) k = k (.bool (decide (a = b)))) ∧
  (∀ {t : TypeId} {x y : Operand} {a b : ByteArray}  {S : World → Prop} {k : Value → Prop} (hne : ∃ w, S w), (std Try.prog).stepS S (sBin .neq t x y (.string a) (.string b)) k = k (.bool (!decide (a = b)))) ∧
  (∀ {t : TypeId} {x y : Operand} {a b : ByteArray} (h : a.size + b.size ≤ 9223372036854775807) {S : World → Prop} {k : Value → Prop} (hne : ∃ w, S w), (std Try.prog).stepS S (sBin .add t x y (.string a) (.string b)) k = k (.string (a ++ b))) ∧
  (∀ {b : Bool}  {S : World → Prop} {k : Value → Prop} (hne : ∃ w, S w), (std Try.prog).stepS S (sUn .not (.bool b)) k = k (.bool (!b))) ∧
  (∀ {q : IntKind} {a : Int}  {S : World → Prop} {k : Value → Prop} (hne : ∃ w, S w), (std Try.prog).stepS S (sUn .neg (.int q a)) k = k (.int q (q.wrap (0 - a)))) ∧
  (∀ {q : IntKind} {a : Int}  {S : World → Prop} {k : Value → Prop} (hne : ∃ w, S w), (std Try.prog).stepS S (sUn .xor (.int q a)) k = k (.int q (bitOp .xor q (if q.signed then -1 else q.max) a))) ∧
  (∀ {a : Addr}  {S : World → Prop} {k : Value → Prop} (hne : ∃ w, S w), (std Try.prog).stepS S (sNil (.pointer (some a))) k = k (.pointer (some a))) ∧
  (∀ {a b : Value}  {S : World → Prop} {k : Value → Prop} (hne : ∃ w, S w), (std Try.prog).stepS S (sExtract (.tuple #[a, b]) 0) k = k (a)) ∧
  (∀ {a b : Value}  {S : World → Prop} {k : Value → Prop} (hne : ∃ w, S w), (std Try.prog).stepS S (sExtract (.tuple #[a, b]) 1) k = k (b)) ∧
  (∀ {a b c : Value}  {S : World → Prop} {k : Value → Prop} (hne : ∃ w, S w), (std Try.prog).stepS S (sExtract (.tuple #[a, b, c]) 0) k = k (a)) ∧
  (∀ {a b c : Value}  {S : World → Prop} {k : Value → Prop} (hne : ∃ w, S w), (std Try.prog).stepS S (sExtract (.tuple #[a, b, c]) 1) k = k (b)) ∧
  (∀ {a b c : Value}  {S : World → Prop} {k : Value → Prop} (hne : ∃ w, S w), (std Try.prog).stepS S (sExtract (.tuple #[a, b, c]) 2) k = k (c)) ∧
  (∀ {ats : Array TypeId} {ty : TypeId} {c : List Bool} {q : IntKind} {a b : Int}  {S : World → Prop} {k : Value → Prop} (hne : ∃ w, S w), (std Try.prog).stepS S (sBuiltin .min ats ty c [.int q a, .int q b]) k = k (.int q (if b < a then b else a))) ∧
  (∀ {ats : Array TypeId} {ty : TypeId} {c : List Bool} {q : IntKind} {a b : Int}  {S : World → Prop} {k : Value → Prop} (hne : ∃ w, S w), (std Try.prog).stepS S (sBuiltin .max ats ty c [.int q a, .int q b]) k = k (.int q (if a < b then b else a))) ∧
  (∀ {ty : TypeId} {c : List Bool} {A : Option Addr} {n m : Nat}  {S : World → Prop} {k : Value → Prop} (hne : ∃ w, S w), (std Try.prog).stepS S (sBuiltin .len #[22] ty c [.slice A n m]) k = k (.int .i64 n)) ∧
  (∀ {ty : TypeId} {c : List Bool} {A : Option Addr} {n m : Nat}  {S : World → Prop} {k : Value → Prop} (hne : ∃ w, S w), (std Try.prog).stepS S (sBuiltin .len #[32] ty c [.slice A n m]) k = k (.int .i64 n)) ∧
  (∀ {ty : TypeId} {c : List Bool} {A : Option Addr} {n m : Nat}  {S : World → Prop} {k : Value → Prop} (hne : ∃ w, S w), (std Try.prog).stepS S (sBuiltin .len #[45] ty c [.slice A n m]) k = k (.int .i64 n)) ∧
  (∀ {ty : TypeId} {c : List Bool} {s : ByteArray}  {S : World → Prop} {k : Value → Prop} (hne : ∃ w, S w), (std Try.prog).stepS S (sBuiltin .len #[9] ty c [.string s]) k = k (.int .i64 s.size)) ∧
  (∀ {q : IntKind} {n : Int}  {S : World → Prop} {k : Value → Prop} (hne : ∃ w, S w), (std Try.prog).stepS S (sConv 3 34 (.int q n)) k = k (.int .u64 (IntKind.wrap .u64 n))) ∧
  (∀ {q : IntKind} {n : Int}  {S : World → Prop} {k : Value → Prop} (hne : ∃ w, S w), (std Try.prog).stepS S (sConv 3 39 (.int q n)) k = k (.int .u64 (IntKind.wrap .u64 n))) ∧
  (∀ {q : IntKind} {n : Int}  {S : World → Prop} {k : Value → Prop} (hne : ∃ w, S w), (std Try.prog).stepS S (sConv 34 3 (.int q n)) k = k (.int .i64 (IntKind.wrap .i64 n))) ∧
  (∀ {q : IntKind} {n : Int}  {S : World → Prop} {k : Value → Prop} (hne : ∃ w, S w), (std Try.prog).stepS S (sConv 34 5 (.int q n)) k = k (.int .u8 (IntKind.wrap .u8 n))) ∧
  (∀ {q : IntKind} {n : Int}  {S : World → Prop} {k : Value → Prop} (hne : ∃ w, S w), (std Try.prog).stepS S (sConv 34 53 (.int q n)) k = k (.int .u16 (IntKind.wrap .u16 n))) ∧
  (∀ {q : IntKind} {n : Int}  {S : World → Prop} {k : Value → Prop} (hne : ∃ w, S w), (std Try.prog).stepS S (sConv 34 55 (.int q n)) k = k (.int .u32 (IntKind.wrap .u32 n))) ∧
  (∀ {q : IntKind} {n : Int}  {S : World → Prop} {k : Value → Prop} (hne : ∃ w, S w), (std Try.prog).stepS S (sConv 39 3 (.int q n)) k = k (.int .i64 (IntKind.wrap .i64 n))) ∧
  (∀ {q : IntKind} {n : Int}  {S : World → Prop} {k : Value → Prop} (hne : ∃ w, S w), (std Try.prog).stepS S (sConv 5 34 (.int q n)) k = k (.int .u64 (IntKind.wrap .u64 n))) ∧
  (∀ {q : IntKind} {n : Int}  {S : World → Prop} {k : Value → Prop} (hne : ∃ w, S w), (std Try.prog).stepS S (sConv 53 34 (.int q n)) k = k (.int .u64 (IntKind.wrap .u64 n))) ∧
  (∀ {q : IntKind} {n : Int}  {S : World → Prop} {k : Value → Prop} (hne : ∃ w, S w), (std Try.prog).stepS S (sConv 55 34 (.int q n)) k = k (.int .u64 (IntKind.wrap .u64 n))) ∧
  (∀ {a : Addr}  {S : World → Prop} {k : Value → Prop} (hne : ∃ w, S w), (std Try.prog).stepS S (sFieldAddr 36 (.pointer (some a)) 0) k = k (.pointer (some (a)))) ∧
  (∀ {a : Addr}  {S : World → Prop} {k : Value → Prop} (hne : ∃ w, S w), (std Try.prog).stepS S (sFieldAddr 36 (.pointer (some a)) 1) k = k (.pointer (some (a.add 1)))) ∧
  (∀ {a : Addr}  {S : World → Prop} {k : Value → Prop} (hne : ∃ w, S w), (std Try.prog).stepS S (sFieldAddr 36 (.pointer (some a)) 2) k = k (.pointer (some (a.add 2)))) ∧
  (∀ {a : Addr}  {S : World → Prop} {k : Value → Prop} (hne : ∃ w, S w), (std Try.prog).stepS S (sFieldAddr 48 (.pointer (some a)) 0) k = k (.pointer (some (a)))) ∧
  (∀ {a : Addr}  {S : World → Prop} {k : Value → Prop} (hne : ∃ w, S w), (std Try.prog).stepS S (sFieldAddr 48 (.pointer (some a)) 1) k = k (.pointer (some (a.add 1)))) ∧
  (∀ {a : Addr}  {S : World → Prop} {k : Value → Prop} (hne : ∃ w, S w), (std Try.prog).stepS S (sFieldAddr 48 (.pointer (some a)) 2) k = k (.pointer (some (a.add 2)))) ∧
  (∀ {a : Addr}  {S : World → Prop} {k : Value → Prop} (hne : ∃ w, S w), (std Try.prog).stepS S (sFieldAddr 50 (.pointer (some a)) 0) k = k (.pointer (some (a)))) ∧
  (∀ {a : Addr}  {S : World → Prop} {k : Value → Prop} (hne : ∃ w, S w), (std Try.prog).stepS S (sFieldAddr 50 (.pointer (some a)) 1) k = k (.pointer (some (a.add 1)))) ∧
  (∀ {a : Addr}  {S : World → Prop} {k : Value → Prop} (hne : ∃ w, S w), (std Try.prog).stepS S (sFieldAddr 65 (.pointer (some a)) 0) k = k (.pointer (some (a)))) ∧
  (∀ {a : Addr}  {S : World → Prop} {k : Value → Prop} (hne : ∃ w, S w), (std Try.prog).stepS S (sFieldAddr 67 (.pointer (some a)) 0) k = k (.pointer (some (a)))) ∧
  (∀ {a : Addr}  {S : World → Prop} {k : Value → Prop} (hne : ∃ w, S w), (std Try.prog).stepS S (sFieldAddr 67 (.pointer (some a)) 1) k = k (.pointer (some (a.add 1)))) ∧
  (∀ {a : Addr}  {S : World → Prop} {k : Value → Prop} (hne : ∃ w, S w), (std Try.prog).stepS S (sFieldAddr 71 (.pointer (some a)) 0) k = k (.pointer (some (a)))) ∧
  (∀ {a : Addr} {n c i : Nat} (h : i < n) {S : World → Prop} {k : Value → Prop} (hne : ∃ w, S w), (std Try.prog).stepS S (sIndexAddr 22 (.slice (some a) n c) (.int .i64 (i : Nat))) k = k (.pointer (some (a.add (i))))) ∧
  (∀ {a : Addr} {n c i : Nat} (h : i < n) {S : World → Prop} {k : Value → Prop} (hne : ∃ w, S w), (std Try.prog).stepS S (sIndexAddr 32 (.slice (some a) n c) (.int .i64 (i : Nat))) k = k (.pointer (some (a.add (i * 3))))) ∧
  (∀ {a : Addr} {n c i : Nat} (h : i < n) {S : World → Prop} {k : Value → Prop} (hne : ∃ w, S w), (std Try.prog).stepS S (sIndexAddr 45 (.slice (some a) n c) (.int .i64 (i : Nat))) k = k (.pointer (some (a.add (i * 2))))) ∧
  (∀ {a : Addr} {n c i : Nat} (h : i < n) {S : World → Prop} {k : Value → Prop} (hne : ∃ w, S w), (std Try.prog).stepS S (sIndexAddr 79 (.slice (some a) n c) (.int .i64 (i : Nat))) k = k (.pointer (some (a.add (i))))) := ⟨@sx_add, @sx_sub, @sx_mul, @sx_and, @sx_or, @sx_xor, @sx_lss, @sx_leq, @sx_gtr, @sx_geq, @sx_eql, @sx_neq, @sx_quo, @sx_rem, @sx_shl, @sx_shr, @sx_seql, @sx_sneq, @sx_sadd, @sx_not, @sx_neg, @sx_inv, @sx_nilc, @sx_ext20, @sx_ext21, @sx_ext30, @sx_ext31, @sx_ext32, @sx_min, @sx_max, @sx_len22, @sx_len32, @sx_len45, @sx_len9, @sx_cv3_34, @sx_cv3_39, @sx_cv34_3, @sx_cv34_5, @sx_cv34_53, @sx_cv34_55, @sx_cv39_3, @sx_cv5_34, @sx_cv53_34, @sx_cv55_34, @sx_fa36_0, @sx_fa36_1, @sx_fa36_2, @sx_fa48_0, @sx_fa48_1, @sx_fa48_2, @sx_fa50_0, @sx_fa50_1, @sx_fa65_0, @sx_fa67_0, @sx_fa67_1, @sx_fa71_0, @sx_ix22, @sx_ix32, @sx_ix45, @sx_ix79⟩
theorem SLX : (∀ {a : Addr} {v : Value} {S : World → Prop} {k : Value → Prop} (hne : ∃ w, S w) (h : ∀ w, S w → w.cell? a = some v), (std Try.prog).stepS S (sLoad 22 (.pointer (some a))) k = k v) ∧
  (∀ {a : Addr} {v : Value} {S : World → Prop} {k : Value → Prop} (hne : ∃ w, S w) (h : ∀ w, S w → w.cell? a = some v), (std Try.prog).stepS S (sLoad 3 (.pointer (some a))) k = k v) ∧
  (∀ {a : Addr} {v : Value} {S : World → Prop} {k : Value → Prop} (hne : ∃ w, S w) (h : ∀ w, S w → w.cell? a = some v), (std Try.prog).stepS S (sLoad 34 (.pointer (some a))) k = k v) ∧
  (∀ {a : Addr} {v : Value} {S : World → Prop} {k : Value → Prop} (hne : ∃ w, S w) (h : ∀ w, S w → w.cell? a = some v), (std Try.prog).stepS S (sLoad 41 (.pointer (some a))) k = k v) ∧
  (∀ {a : Addr} {v : Value} {S : World → Prop} {k : Value → Prop} (hne : ∃ w, S w) (h : ∀ w, S w → w.cell? a = some v), (std Try.prog).stepS S (sLoad 5 (.pointer (some a))) k = k v) ∧
  (∀ {a : Addr} {v : Value} {S : World → Prop} {k : Value → Prop} (hne : ∃ w, S w) (h : ∀ w, S w → w.cell? a = some v), (std Try.prog).stepS S (sLoad 9 (.pointer (some a))) k = k v) := ⟨@sld22, @sld3, @sld34, @sld41, @sld5, @sld9⟩
theorem LX : (∀ {a : Addr} {v : Value} {w : World} {K : Value → World → Prop} (h : w.cell? a = some v), (std Try.prog).step (sLoad 22 (.pointer (some a))) w K = K v w) ∧
  (∀ {a : Addr} {v : Value} {w : World} {K : Value → World → Prop} (h : w.cell? a = some v), (std Try.prog).step (sLoad 3 (.pointer (some a))) w K = K v w) ∧
  (∀ {a : Addr} {v : Value} {w : World} {K : Value → World → Prop} (h : w.cell? a = some v), (std Try.prog).step (sLoad 34 (.pointer (some a))) w K = K v w) ∧
  (∀ {a : Addr} {v : Value} {w : World} {K : Value → World → Prop} (h : w.cell? a = some v), (std Try.prog).step (sLoad 41 (.pointer (some a))) w K = K v w) ∧
  (∀ {a : Addr} {v : Value} {w : World} {K : Value → World → Prop} (h : w.cell? a = some v), (std Try.prog).step (sLoad 5 (.pointer (some a))) w K = K v w) ∧
  (∀ {a : Addr} {v : Value} {w : World} {K : Value → World → Prop} (h : w.cell? a = some v), (std Try.prog).step (sLoad 9 (.pointer (some a))) w K = K v w) := ⟨@ld22, @ld3, @ld34, @ld41, @ld5, @ld9⟩
theorem BX : (∀ (p : Prop) [Decidable p] (A B : Prop), (std Try.prog).bool (.bool (decide p)) A B = ((p → A) ∧ (¬ p → B))) ∧ (∀ (A B : Prop), (std Try.prog).bool (.bool true) A B = A) ∧ (∀ (A B : Prop), (std Try.prog).bool (.bool false) A B = B) ∧ (∀ (b : Bool) (A B : Prop), (std Try.prog).bool (.bool (!b)) A B = (std Try.prog).bool (.bool b) B A) := ⟨fun p => bool_dec p, bool_true, bool_false, bool_not⟩
end Go.Proofs.Ytibacmekhkaipaa
