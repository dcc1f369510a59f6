/- Closed facts about the types of the program, and the rules for the steps at these types. Written by a program of this work. -/
import Derived.Test.YtilfkccahlkcaaaRf
import Derived.Test.YtilfkccahlkcaaaProg
import Derived.KernelRfl
namespace Go.Proofs.Ytilfkccahlkcaaa
open Go Xf
set_option linter.unusedVariables false
set_option maxRecDepth 100000

-- 2: int64
theorem u2 : Try.prog.underlying 2 = some (.int .i64) := by kernel_rfl
theorem ag2 : (Try.prog.underlying 2).map isAggD = some false := by kernel_rfl
theorem sz2 : (Try.prog.info? 2).map (·.size) = some 1 := by kernel_rfl
theorem ze2 : (Try.prog.info? 2).bind (·.zero) = some (.int .i64 0) := by kernel_rfl
theorem inf2 : ∃ i, Try.prog.info? 2 = some i ∧ i.zero = some (.int .i64 0) ∧ i.size = 1 ∧ i.bytes = 8 := info_parts (by kernel_rfl : (Try.prog.info? 2).map (fun i => (i.zero, i.size, i.bytes)) = some (some (.int .i64 0), 1, 8))
-- 3: int
theorem u3 : Try.prog.underlying 3 = some (.int .i64) := by kernel_rfl
theorem ag3 : (Try.prog.underlying 3).map isAggD = some false := by kernel_rfl
theorem sz3 : (Try.prog.info? 3).map (·.size) = some 1 := by kernel_rfl
theorem ze3 : (Try.prog.info? 3).bind (·.zero) = some (.int .i64 0) := by kernel_rfl
theorem inf3 : ∃ i, Try.prog.info? 3 = some i ∧ i.zero = some (.int .i64 0) ∧ i.size = 1 ∧ i.bytes = 8 := info_parts (by kernel_rfl : (Try.prog.info? 3).map (fun i => (i.zero, i.size, i.bytes)) = some (some (.int .i64 0), 1, 8))
-- 4: bool
theorem u4 : Try.prog.underlying 4 = some (.bool) := by kernel_rfl
theorem ag4 : (Try.prog.underlying 4).map isAggD = some false := by kernel_rfl
theorem sz4 : (Try.prog.info? 4).map (·.size) = some 1 := by kernel_rfl
theorem ze4 : (Try.prog.info? 4).bind (·.zero) = some (.bool false) := by kernel_rfl
theorem inf4 : ∃ i, Try.prog.info? 4 = some i ∧ i.zero = some (.bool false) ∧ i.size = 1 ∧ i.bytes = 1 := info_parts (by kernel_rfl : (Try.prog.info? 4).map (fun i => (i.zero, i.size, i.bytes)) = some (some (.bool false), 1, 1))
-- 22: []bool
theorem u22 : Try.prog.underlying 22 = some (.slice 4) := by kernel_rfl
theorem ag22 : (Try.prog.underlying 22).map isAggD = some false := by kernel_rfl
theorem sz22 : (Try.prog.info? 22).map (·.size) = some 1 := by kernel_rfl
theorem ze22 : (Try.prog.info? 22).bind (·.zero) = some (.slice none 0 0) := by kernel_rfl
theorem inf22 : ∃ i, Try.prog.info? 22 = some i ∧ i.zero = some (.slice none 0 0) ∧ i.size = 1 ∧ i.bytes = 24 := info_parts (by kernel_rfl : (Try.prog.info? 22).map (fun i => (i.zero, i.size, i.bytes)) = some (some (.slice none 0 0), 1, 24))
-- 23: []flotillalaw20.Op
theorem u23 : Try.prog.underlying 23 = some (.slice 32) := by kernel_rfl
theorem ag23 : (Try.prog.underlying 23).map isAggD = some false := by kernel_rfl
theorem sz23 : (Try.prog.info? 23).map (·.size) = some 1 := by kernel_rfl
theorem ze23 : (Try.prog.info? 23).bind (·.zero) = some (.slice none 0 0) := by kernel_rfl
theorem inf23 : ∃ i, Try.prog.info? 23 = some i ∧ i.zero = some (.slice none 0 0) ∧ i.size = 1 ∧ i.bytes = 24 := info_parts (by kernel_rfl : (Try.prog.info? 23).map (fun i => (i.zero, i.size, i.bytes)) = some (some (.slice none 0 0), 1, 24))
-- 25: *own.Book
theorem u25 : Try.prog.underlying 25 = some (.pointer 60) := by kernel_rfl
theorem ag25 : (Try.prog.underlying 25).map isAggD = some false := by kernel_rfl
theorem sz25 : (Try.prog.info? 25).map (·.size) = some 1 := by kernel_rfl
theorem ze25 : (Try.prog.info? 25).bind (·.zero) = some (.pointer none) := by kernel_rfl
theorem inf25 : ∃ i, Try.prog.info? 25 = some i ∧ i.zero = some (.pointer none) ∧ i.size = 1 ∧ i.bytes = 8 := info_parts (by kernel_rfl : (Try.prog.info? 25).map (fun i => (i.zero, i.size, i.bytes)) = some (some (.pointer none), 1, 8))
-- 26: api.Errno
theorem u26 : Try.prog.underlying 26 = some (.int .i64) := by kernel_rfl
theorem ag26 : (Try.prog.underlying 26).map isAggD = some false := by kernel_rfl
theorem sz26 : (Try.prog.info? 26).map (·.size) = some 1 := by kernel_rfl
theorem ze26 : (Try.prog.info? 26).bind (·.zero) = some (.int .i64 0) := by kernel_rfl
theorem inf26 : ∃ i, Try.prog.info? 26 = some i ∧ i.zero = some (.int .i64 0) ∧ i.size = 1 ∧ i.bytes = 8 := info_parts (by kernel_rfl : (Try.prog.info? 26).map (fun i => (i.zero, i.size, i.bytes)) = some (some (.int .i64 0), 1, 8))
-- 29: [16]int
theorem u29 : Try.prog.underlying 29 = some (.array 16 3) := by kernel_rfl
theorem ag29 : (Try.prog.underlying 29).map isAggD = some true := by kernel_rfl
theorem sz29 : (Try.prog.info? 29).map (·.size) = some 16 := by kernel_rfl
theorem ze29 : (Try.prog.info? 29).bind (·.zero) = some (.agg #[.int .i64 0, .int .i64 0, .int .i64 0, .int .i64 0, .int .i64 0, .int .i64 0, .int .i64 0, .int .i64 0, .int .i64 0, .int .i64 0, .int .i64 0, .int .i64 0, .int .i64 0, .int .i64 0, .int .i64 0, .int .i64 0]) := by kernel_rfl
theorem inf29 : ∃ i, Try.prog.info? 29 = some i ∧ i.zero = some (.agg #[.int .i64 0, .int .i64 0, .int .i64 0, .int .i64 0, .int .i64 0, .int .i64 0, .int .i64 0, .int .i64 0, .int .i64 0, .int .i64 0, .int .i64 0, .int .i64 0, .int .i64 0, .int .i64 0, .int .i64 0, .int .i64 0]) ∧ i.size = 16 ∧ i.bytes = 128 := info_parts (by kernel_rfl : (Try.prog.info? 29).map (fun i => (i.zero, i.size, i.bytes)) = some (some (.agg #[.int .i64 0, .int .i64 0, .int .i64 0, .int .i64 0, .int .i64 0, .int .i64 0, .int .i64 0, .int .i64 0, .int .i64 0, .int .i64 0, .int .i64 0, .int .i64 0, .int .i64 0, .int .i64 0, .int .i64 0, .int .i64 0]), 16, 128))
-- 30: [16]bool
theorem u30 : Try.prog.underlying 30 = some (.array 16 4) := by kernel_rfl
theorem ag30 : (Try.prog.underlying 30).map isAggD = some true := by kernel_rfl
theorem sz30 : (Try.prog.info? 30).map (·.size) = some 16 := by kernel_rfl
theorem ze30 : (Try.prog.info? 30).bind (·.zero) = some (.agg #[.bool false, .bool false, .bool false, .bool false, .bool false, .bool false, .bool false, .bool false, .bool false, .bool false, .bool false, .bool false, .bool false, .bool false, .bool false, .bool false]) := by kernel_rfl
theorem inf30 : ∃ i, Try.prog.info? 30 = some i ∧ i.zero = some (.agg #[.bool false, .bool false, .bool false, .bool false, .bool false, .bool false, .bool false, .bool false, .bool false, .bool false, .bool false, .bool false, .bool false, .bool false, .bool false, .bool false]) ∧ i.size = 16 ∧ i.bytes = 16 := info_parts (by kernel_rfl : (Try.prog.info? 30).map (fun i => (i.zero, i.size, i.bytes)) = some (some (.agg #[.bool false, .bool false, .bool false, .bool false, .bool false, .bool false, .bool false, .bool false, .bool false, .bool false, .bool false, .bool false, .bool false, .bool false, .bool false, .bool false]), 16, 16))
-- 31: struct { Kind int; Page int; Inst int }
theorem ag31 : (Try.prog.underlying 31).map isAggD = some true := by kernel_rfl
theorem sz31 : (Try.prog.info? 31).map (·.size) = some 3 := by kernel_rfl
theorem ze31 : (Try.prog.info? 31).bind (·.zero) = some (.agg #[.int .i64 0, .int .i64 0, .int .i64 0]) := by kernel_rfl
theorem inf31 : ∃ i, Try.prog.info? 31 = some i ∧ i.zero = some (.agg #[.int .i64 0, .int .i64 0, .int .i64 0]) ∧ i.size = 3 ∧ i.bytes = 24 := info_parts (by kernel_rfl : (Try.prog.info? 31).map (fun i => (i.zero, i.size, i.bytes)) = some (some (.agg #[.int .i64 0, .int .i64 0, .int .i64 0]), 3, 24))
-- 32: flotillalaw20.Op
theorem ag32 : (Try.prog.underlying 32).map isAggD = some true := by kernel_rfl
theorem sz32 : (Try.prog.info? 32).map (·.size) = some 3 := by kernel_rfl
theorem ze32 : (Try.prog.info? 32).bind (·.zero) = some (.agg #[.int .i64 0, .int .i64 0, .int .i64 0]) := by kernel_rfl
theorem inf32 : ∃ i, Try.prog.info? 32 = some i ∧ i.zero = some (.agg #[.int .i64 0, .int .i64 0, .int .i64 0]) ∧ i.size = 3 ∧ i.bytes = 24 := info_parts (by kernel_rfl : (Try.prog.info? 32).map (fun i => (i.zero, i.size, i.bytes)) = some (some (.agg #[.int .i64 0, .int .i64 0, .int .i64 0]), 3, 24))
-- 33: []api.Order
theorem u33 : Try.prog.underlying 33 = some (.slice 46) := by kernel_rfl
theorem ag33 : (Try.prog.underlying 33).map isAggD = some false := by kernel_rfl
theorem sz33 : (Try.prog.info? 33).map (·.size) = some 1 := by kernel_rfl
theorem ze33 : (Try.prog.info? 33).bind (·.zero) = some (.slice none 0 0) := by kernel_rfl
theorem inf33 : ∃ i, Try.prog.info? 33 = some i ∧ i.zero = some (.slice none 0 0) ∧ i.size = 1 ∧ i.bytes = 24 := info_parts (by kernel_rfl : (Try.prog.info? 33).map (fun i => (i.zero, i.size, i.bytes)) = some (some (.slice none 0 0), 1, 24))
-- 36: []int
theorem u36 : Try.prog.underlying 36 = some (.slice 3) := by kernel_rfl
theorem ag36 : (Try.prog.underlying 36).map isAggD = some false := by kernel_rfl
theorem sz36 : (Try.prog.info? 36).map (·.size) = some 1 := by kernel_rfl
theorem ze36 : (Try.prog.info? 36).bind (·.zero) = some (.slice none 0 0) := by kernel_rfl
theorem inf36 : ∃ i, Try.prog.info? 36 = some i ∧ i.zero = some (.slice none 0 0) ∧ i.size = 1 ∧ i.bytes = 24 := info_parts (by kernel_rfl : (Try.prog.info? 36).map (fun i => (i.zero, i.size, i.bytes)) = some (some (.slice none 0 0), 1, 24))
-- 44: api.OrderKind
theorem u44 : Try.prog.underlying 44 = some (.int .i64) := by kernel_rfl
theorem ag44 : (Try.prog.underlying 44).map isAggD = some false := by kernel_rfl
theorem sz44 : (Try.prog.info? 44).map (·.size) = some 1 := by kernel_rfl
theorem ze44 : (Try.prog.info? 44).bind (·.zero) = some (.int .i64 0) := by kernel_rfl
theorem inf44 : ∃ i, Try.prog.info? 44 = some i ∧ i.zero = some (.int .i64 0) ∧ i.size = 1 ∧ i.bytes = 8 := info_parts (by kernel_rfl : (Try.prog.info? 44).map (fun i => (i.zero, i.size, i.bytes)) = some (some (.int .i64 0), 1, 8))
-- 45: struct { Kind api.OrderKind; Page int; From int; To int; Fast bool }
theorem ag45 : (Try.prog.underlying 45).map isAggD = some true := by kernel_rfl
theorem sz45 : (Try.prog.info? 45).map (·.size) = some 5 := by kernel_rfl
theorem ze45 : (Try.prog.info? 45).bind (·.zero) = some (.agg #[.int .i64 0, .int .i64 0, .int .i64 0, .int .i64 0, .bool false]) := by kernel_rfl
theorem inf45 : ∃ i, Try.prog.info? 45 = some i ∧ i.zero = some (.agg #[.int .i64 0, .int .i64 0, .int .i64 0, .int .i64 0, .bool false]) ∧ i.size = 5 ∧ i.bytes = 40 := info_parts (by kernel_rfl : (Try.prog.info? 45).map (fun i => (i.zero, i.size, i.bytes)) = some (some (.agg #[.int .i64 0, .int .i64 0, .int .i64 0, .int .i64 0, .bool false]), 5, 40))
-- 46: api.Order
theorem ag46 : (Try.prog.underlying 46).map isAggD = some true := by kernel_rfl
theorem sz46 : (Try.prog.info? 46).map (·.size) = some 5 := by kernel_rfl
theorem ze46 : (Try.prog.info? 46).bind (·.zero) = some (.agg #[.int .i64 0, .int .i64 0, .int .i64 0, .int .i64 0, .bool false]) := by kernel_rfl
theorem inf46 : ∃ i, Try.prog.info? 46 = some i ∧ i.zero = some (.agg #[.int .i64 0, .int .i64 0, .int .i64 0, .int .i64 0, .bool false]) ∧ i.size = 5 ∧ i.bytes = 40 := info_parts (by kernel_rfl : (Try.prog.info? 46).map (fun i => (i.zero, i.size, i.bytes)) = some (some (.agg #[.int .i64 0, .int .i64 0, .int .i64 0, .int .i64 0, .bool false]), 5, 40))
-- 49: [16][]int
theorem u49 : Try.prog.underlying 49 = some (.array 16 36) := by kernel_rfl
theorem ag49 : (Try.prog.underlying 49).map isAggD = some true := by kernel_rfl
theorem sz49 : (Try.prog.info? 49).map (·.size) = some 16 := by kernel_rfl
theorem ze49 : (Try.prog.info? 49).bind (·.zero) = some (.agg #[.slice none 0 0, .slice none 0 0, .slice none 0 0, .slice none 0 0, .slice none 0 0, .slice none 0 0, .slice none 0 0, .slice none 0 0, .slice none 0 0, .slice none 0 0, .slice none 0 0, .slice none 0 0, .slice none 0 0, .slice none 0 0, .slice none 0 0, .slice none 0 0]) := by kernel_rfl
theorem inf49 : ∃ i, Try.prog.info? 49 = some i ∧ i.zero = some (.agg #[.slice none 0 0, .slice none 0 0, .slice none 0 0, .slice none 0 0, .slice none 0 0, .slice none 0 0, .slice none 0 0, .slice none 0 0, .slice none 0 0, .slice none 0 0, .slice none 0 0, .slice none 0 0, .slice none 0 0, .slice none 0 0, .slice none 0 0, .slice none 0 0]) ∧ i.size = 16 ∧ i.bytes = 384 := info_parts (by kernel_rfl : (Try.prog.info? 49).map (fun i => (i.zero, i.size, i.bytes)) = some (some (.agg #[.slice none 0 0, .slice none 0 0, .slice none 0 0, .slice none 0 0, .slice none 0 0, .slice none 0 0, .slice none 0 0, .slice none 0 0, .slice none 0 0, .slice none 0 0, .slice none 0 0, .slice none 0 0, .slice none 0 0, .slice none 0 0, .slice none 0 0, .slice none 0 0]), 16, 384))
-- 52: []flotillaref20.Leaf
theorem u52 : Try.prog.underlying 52 = some (.slice 68) := by kernel_rfl
theorem ag52 : (Try.prog.underlying 52).map isAggD = some false := by kernel_rfl
theorem sz52 : (Try.prog.info? 52).map (·.size) = some 1 := by kernel_rfl
theorem ze52 : (Try.prog.info? 52).bind (·.zero) = some (.slice none 0 0) := by kernel_rfl
theorem inf52 : ∃ i, Try.prog.info? 52 = some i ∧ i.zero = some (.slice none 0 0) ∧ i.size = 1 ∧ i.bytes = 24 := info_parts (by kernel_rfl : (Try.prog.info? 52).map (fun i => (i.zero, i.size, i.bytes)) = some (some (.slice none 0 0), 1, 24))
-- 58: []*own.leaf
theorem u58 : Try.prog.underlying 58 = some (.slice 61) := by kernel_rfl
theorem ag58 : (Try.prog.underlying 58).map isAggD = some false := by kernel_rfl
theorem sz58 : (Try.prog.info? 58).map (·.size) = some 1 := by kernel_rfl
theorem ze58 : (Try.prog.info? 58).bind (·.zero) = some (.slice none 0 0) := by kernel_rfl
theorem inf58 : ∃ i, Try.prog.info? 58 = some i ∧ i.zero = some (.slice none 0 0) ∧ i.size = 1 ∧ i.bytes = 24 := info_parts (by kernel_rfl : (Try.prog.info? 58).map (fun i => (i.zero, i.size, i.bytes)) = some (some (.slice none 0 0), 1, 24))
-- 59: struct { l []*own.leaf }
theorem ag59 : (Try.prog.underlying 59).map isAggD = some true := by kernel_rfl
theorem sz59 : (Try.prog.info? 59).map (·.size) = some 1 := by kernel_rfl
theorem ze59 : (Try.prog.info? 59).bind (·.zero) = some (.agg #[.slice none 0 0]) := by kernel_rfl
theorem inf59 : ∃ i, Try.prog.info? 59 = some i ∧ i.zero = some (.agg #[.slice none 0 0]) ∧ i.size = 1 ∧ i.bytes = 24 := info_parts (by kernel_rfl : (Try.prog.info? 59).map (fun i => (i.zero, i.size, i.bytes)) = some (some (.agg #[.slice none 0 0]), 1, 24))
-- 60: own.Book
theorem ag60 : (Try.prog.underlying 60).map isAggD = some true := by kernel_rfl
theorem sz60 : (Try.prog.info? 60).map (·.size) = some 1 := by kernel_rfl
theorem ze60 : (Try.prog.info? 60).bind (·.zero) = some (.agg #[.slice none 0 0]) := by kernel_rfl
theorem inf60 : ∃ i, Try.prog.info? 60 = some i ∧ i.zero = some (.agg #[.slice none 0 0]) ∧ i.size = 1 ∧ i.bytes = 24 := info_parts (by kernel_rfl : (Try.prog.info? 60).map (fun i => (i.zero, i.size, i.bytes)) = some (some (.agg #[.slice none 0 0]), 1, 24))
-- 61: *own.leaf
theorem u61 : Try.prog.underlying 61 = some (.pointer 63) := by kernel_rfl
theorem ag61 : (Try.prog.underlying 61).map isAggD = some false := by kernel_rfl
theorem sz61 : (Try.prog.info? 61).map (·.size) = some 1 := by kernel_rfl
theorem ze61 : (Try.prog.info? 61).bind (·.zero) = some (.pointer none) := by kernel_rfl
theorem inf61 : ∃ i, Try.prog.info? 61 = some i ∧ i.zero = some (.pointer none) ∧ i.size = 1 ∧ i.bytes = 8 := info_parts (by kernel_rfl : (Try.prog.info? 61).map (fun i => (i.zero, i.size, i.bytes)) = some (some (.pointer none), 1, 8))
-- 62: struct { owner int; lost bool; called bool; fast bool; waits []int }
theorem ag62 : (Try.prog.underlying 62).map isAggD = some true := by kernel_rfl
theorem sz62 : (Try.prog.info? 62).map (·.size) = some 5 := by kernel_rfl
theorem ze62 : (Try.prog.info? 62).bind (·.zero) = some (.agg #[.int .i64 0, .bool false, .bool false, .bool false, .slice none 0 0]) := by kernel_rfl
theorem inf62 : ∃ i, Try.prog.info? 62 = some i ∧ i.zero = some (.agg #[.int .i64 0, .bool false, .bool false, .bool false, .slice none 0 0]) ∧ i.size = 5 ∧ i.bytes = 40 := info_parts (by kernel_rfl : (Try.prog.info? 62).map (fun i => (i.zero, i.size, i.bytes)) = some (some (.agg #[.int .i64 0, .bool false, .bool false, .bool false, .slice none 0 0]), 5, 40))
-- 63: own.leaf
theorem ag63 : (Try.prog.underlying 63).map isAggD = some true := by kernel_rfl
theorem sz63 : (Try.prog.info? 63).map (·.size) = some 5 := by kernel_rfl
theorem ze63 : (Try.prog.info? 63).bind (·.zero) = some (.agg #[.int .i64 0, .bool false, .bool false, .bool false, .slice none 0 0]) := by kernel_rfl
theorem inf63 : ∃ i, Try.prog.info? 63 = some i ∧ i.zero = some (.agg #[.int .i64 0, .bool false, .bool false, .bool false, .slice none 0 0]) ∧ i.size = 5 ∧ i.bytes = 40 := info_parts (by kernel_rfl : (Try.prog.info? 63).map (fun i => (i.zero, i.size, i.bytes)) = some (some (.agg #[.int .i64 0, .bool false, .bool false, .bool false, .slice none 0 0]), 5, 40))
-- 67: struct { Owner int; Lost bool; Called bool; Fast bool; Waits []int }
theorem ag67 : (Try.prog.underlying 67).map isAggD = some true := by kernel_rfl
theorem sz67 : (Try.prog.info? 67).map (·.size) = some 5 := by kernel_rfl
theorem ze67 : (Try.prog.info? 67).bind (·.zero) = some (.agg #[.int .i64 0, .bool false, .bool false, .bool false, .slice none 0 0]) := by kernel_rfl
theorem inf67 : ∃ i, Try.prog.info? 67 = some i ∧ i.zero = some (.agg #[.int .i64 0, .bool false, .bool false, .bool false, .slice none 0 0]) ∧ i.size = 5 ∧ i.bytes = 40 := info_parts (by kernel_rfl : (Try.prog.info? 67).map (fun i => (i.zero, i.size, i.bytes)) = some (some (.agg #[.int .i64 0, .bool false, .bool false, .bool false, .slice none 0 0]), 5, 40))
-- 68: flotillaref20.Leaf
theorem ag68 : (Try.prog.underlying 68).map isAggD = some true := by kernel_rfl
theorem sz68 : (Try.prog.info? 68).map (·.size) = some 5 := by kernel_rfl
theorem ze68 : (Try.prog.info? 68).bind (·.zero) = some (.agg #[.int .i64 0, .bool false, .bool false, .bool false, .slice none 0 0]) := by kernel_rfl
theorem inf68 : ∃ i, Try.prog.info? 68 = some i ∧ i.zero = some (.agg #[.int .i64 0, .bool false, .bool false, .bool false, .slice none 0 0]) ∧ i.size = 5 ∧ i.bytes = 40 := info_parts (by kernel_rfl : (Try.prog.info? 68).map (fun i => (i.zero, i.size, i.bytes)) = some (some (.agg #[.int .i64 0, .bool false, .bool false, .bool false, .slice none 0 0]), 5, 40))

theorem rfa32_0 {a : Addr} {w : World} : (sFieldAddr 32 (.pointer (some a)) 0).run Try.prog w = .ok (.value (.pointer (some (a)))) w := by kernel_rfl
theorem rfa32_1 {a : Addr} {w : World} : (sFieldAddr 32 (.pointer (some a)) 1).run Try.prog w = .ok (.value (.pointer (some (a.add 1)))) w := by kernel_rfl
theorem rfa32_2 {a : Addr} {w : World} : (sFieldAddr 32 (.pointer (some a)) 2).run Try.prog w = .ok (.value (.pointer (some (a.add 2)))) w := by kernel_rfl
theorem rfa46_0 {a : Addr} {w : World} : (sFieldAddr 46 (.pointer (some a)) 0).run Try.prog w = .ok (.value (.pointer (some (a)))) w := by kernel_rfl
theorem rfa46_1 {a : Addr} {w : World} : (sFieldAddr 46 (.pointer (some a)) 1).run Try.prog w = .ok (.value (.pointer (some (a.add 1)))) w := by kernel_rfl
theorem rfa46_2 {a : Addr} {w : World} : (sFieldAddr 46 (.pointer (some a)) 2).run Try.prog w = .ok (.value (.pointer (some (a.add 2)))) w := by kernel_rfl
theorem rfa46_3 {a : Addr} {w : World} : (sFieldAddr 46 (.pointer (some a)) 3).run Try.prog w = .ok (.value (.pointer (some (a.add 3)))) w := by kernel_rfl
theorem rfa60_0 {a : Addr} {w : World} : (sFieldAddr 60 (.pointer (some a)) 0).run Try.prog w = .ok (.value (.pointer (some (a)))) w := by kernel_rfl
theorem rfa63_0 {a : Addr} {w : World} : (sFieldAddr 63 (.pointer (some a)) 0).run Try.prog w = .ok (.value (.pointer (some (a)))) w := by kernel_rfl
theorem rfa63_1 {a : Addr} {w : World} : (sFieldAddr 63 (.pointer (some a)) 1).run Try.prog w = .ok (.value (.pointer (some (a.add 1)))) w := by kernel_rfl
theorem rfa63_2 {a : Addr} {w : World} : (sFieldAddr 63 (.pointer (some a)) 2).run Try.prog w = .ok (.value (.pointer (some (a.add 2)))) w := by kernel_rfl
theorem rfa63_3 {a : Addr} {w : World} : (sFieldAddr 63 (.pointer (some a)) 3).run Try.prog w = .ok (.value (.pointer (some (a.add 3)))) w := by kernel_rfl
theorem rfa63_4 {a : Addr} {w : World} : (sFieldAddr 63 (.pointer (some a)) 4).run Try.prog w = .ok (.value (.pointer (some (a.add 4)))) w := by kernel_rfl
theorem rfa68_0 {a : Addr} {w : World} : (sFieldAddr 68 (.pointer (some a)) 0).run Try.prog w = .ok (.value (.pointer (some (a)))) w := by kernel_rfl
theorem rfa68_1 {a : Addr} {w : World} : (sFieldAddr 68 (.pointer (some a)) 1).run Try.prog w = .ok (.value (.pointer (some (a.add 1)))) w := by kernel_rfl
theorem rfa68_2 {a : Addr} {w : World} : (sFieldAddr 68 (.pointer (some a)) 2).run Try.prog w = .ok (.value (.pointer (some (a.add 2)))) w := by kernel_rfl
theorem rfa68_3 {a : Addr} {w : World} : (sFieldAddr 68 (.pointer (some a)) 3).run Try.prog w = .ok (.value (.pointer (some (a.add 3)))) w := by kernel_rfl
theorem rfa68_4 {a : Addr} {w : World} : (sFieldAddr 68 (.pointer (some a)) 4).run Try.prog w = .ok (.value (.pointer (some (a.add 4)))) w := by kernel_rfl
theorem rix22 {a : Addr} {n c i : Nat} {w : World} (h : i < n) : (sIndexAddr 22 (.slice (some a) n c) (.int .i64 (i : Nat))).run Try.prog w = .ok (.value (.pointer (some (a.add (i))))) w := by
  have := run_idxS (P := Try.prog) (w := w) (a := a) (c := c) (q := .i64) (i := (i : Nat)) u22 sz4 (by omega) (show ((i : Nat) : Int) < n by omega)
  rw [show ((i : Nat) : Int).toNat * 1 = i by omega] at this
  exact this
theorem rix23 {a : Addr} {n c i : Nat} {w : World} (h : i < n) : (sIndexAddr 23 (.slice (some a) n c) (.int .i64 (i : Nat))).run Try.prog w = .ok (.value (.pointer (some (a.add (i * 3))))) w := by
  have := run_idxS (P := Try.prog) (w := w) (a := a) (c := c) (q := .i64) (i := (i : Nat)) u23 sz32 (by omega) (show ((i : Nat) : Int) < n by omega)
  rw [show ((i : Nat) : Int).toNat * 3 = i * 3 by omega] at this
  exact this
theorem rix33 {a : Addr} {n c i : Nat} {w : World} (h : i < n) : (sIndexAddr 33 (.slice (some a) n c) (.int .i64 (i : Nat))).run Try.prog w = .ok (.value (.pointer (some (a.add (i * 5))))) w := by
  have := run_idxS (P := Try.prog) (w := w) (a := a) (c := c) (q := .i64) (i := (i : Nat)) u33 sz46 (by omega) (show ((i : Nat) : Int) < n by omega)
  rw [show ((i : Nat) : Int).toNat * 5 = i * 5 by omega] at this
  exact this
theorem rix36 {a : Addr} {n c i : Nat} {w : World} (h : i < n) : (sIndexAddr 36 (.slice (some a) n c) (.int .i64 (i : Nat))).run Try.prog w = .ok (.value (.pointer (some (a.add (i))))) w := by
  have := run_idxS (P := Try.prog) (w := w) (a := a) (c := c) (q := .i64) (i := (i : Nat)) u36 sz3 (by omega) (show ((i : Nat) : Int) < n by omega)
  rw [show ((i : Nat) : Int).toNat * 1 = i by omega] at this
  exact this
theorem rix52 {a : Addr} {n c i : Nat} {w : World} (h : i < n) : (sIndexAddr 52 (.slice (some a) n c) (.int .i64 (i : Nat))).run Try.prog w = .ok (.value (.pointer (some (a.add (i * 5))))) w := by
  have := run_idxS (P := Try.prog) (w := w) (a := a) (c := c) (q := .i64) (i := (i : Nat)) u52 sz68 (by omega) (show ((i : Nat) : Int) < n by omega)
  rw [show ((i : Nat) : Int).toNat * 5 = i * 5 by omega] at this
  exact this
theorem rix58 {a : Addr} {n c i : Nat} {w : World} (h : i < n) : (sIndexAddr 58 (.slice (some a) n c) (.int .i64 (i : Nat))).run Try.prog w = .ok (.value (.pointer (some (a.add (i))))) w := by
  have := run_idxS (P := Try.prog) (w := w) (a := a) (c := c) (q := .i64) (i := (i : Nat)) u58 sz61 (by omega) (show ((i : Nat) : Int) < n by omega)
  rw [show ((i : Nat) : Int).toNat * 1 = i by omega] at this
  exact this
theorem ld3 {a : Addr} {v : Value} {w : World} {K : Value → World → Prop} (h : w.cell? a = some v) : (std Try.prog).step (sLoad 3 (.pointer (some a))) w K = K v w := step_run (run_sLoad (run_loadVar1 ag3 h))
theorem sld3 {a : Addr} {v : Value} {S : World → Prop} {k : Value → Prop} (hne : ∃ w, S w) (h : ∀ w, S w → w.cell? a = some v) : (std Try.prog).stepS S (sLoad 3 (.pointer (some a))) k = k v := stepS_run hne fun w hw => run_sLoad (run_loadVar1 ag3 (h w hw))
theorem ld36 {a : Addr} {v : Value} {w : World} {K : Value → World → Prop} (h : w.cell? a = some v) : (std Try.prog).step (sLoad 36 (.pointer (some a))) w K = K v w := step_run (run_sLoad (run_loadVar1 ag36 h))
theorem sld36 {a : Addr} {v : Value} {S : World → Prop} {k : Value → Prop} (hne : ∃ w, S w) (h : ∀ w, S w → w.cell? a = some v) : (std Try.prog).stepS S (sLoad 36 (.pointer (some a))) k = k v := stepS_run hne fun w hw => run_sLoad (run_loadVar1 ag36 (h w hw))
theorem ld4 {a : Addr} {v : Value} {w : World} {K : Value → World → Prop} (h : w.cell? a = some v) : (std Try.prog).step (sLoad 4 (.pointer (some a))) w K = K v w := step_run (run_sLoad (run_loadVar1 ag4 h))
theorem sld4 {a : Addr} {v : Value} {S : World → Prop} {k : Value → Prop} (hne : ∃ w, S w) (h : ∀ w, S w → w.cell? a = some v) : (std Try.prog).stepS S (sLoad 4 (.pointer (some a))) k = k v := stepS_run hne fun w hw => run_sLoad (run_loadVar1 ag4 (h w hw))
theorem ld44 {a : Addr} {v : Value} {w : World} {K : Value → World → Prop} (h : w.cell? a = some v) : (std Try.prog).step (sLoad 44 (.pointer (some a))) w K = K v w := step_run (run_sLoad (run_loadVar1 ag44 h))
theorem sld44 {a : Addr} {v : Value} {S : World → Prop} {k : Value → Prop} (hne : ∃ w, S w) (h : ∀ w, S w → w.cell? a = some v) : (std Try.prog).stepS S (sLoad 44 (.pointer (some a))) k = k v := stepS_run hne fun w hw => run_sLoad (run_loadVar1 ag44 (h w hw))
theorem ld58 {a : Addr} {v : Value} {w : World} {K : Value → World → Prop} (h : w.cell? a = some v) : (std Try.prog).step (sLoad 58 (.pointer (some a))) w K = K v w := step_run (run_sLoad (run_loadVar1 ag58 h))
theorem sld58 {a : Addr} {v : Value} {S : World → Prop} {k : Value → Prop} (hne : ∃ w, S w) (h : ∀ w, S w → w.cell? a = some v) : (std Try.prog).stepS S (sLoad 58 (.pointer (some a))) k = k v := stepS_run hne fun w hw => run_sLoad (run_loadVar1 ag58 (h w hw))
theorem ld61 {a : Addr} {v : Value} {w : World} {K : Value → World → Prop} (h : w.cell? a = some v) : (std Try.prog).step (sLoad 61 (.pointer (some a))) w K = K v w := step_run (run_sLoad (run_loadVar1 ag61 h))
theorem sld61 {a : Addr} {v : Value} {S : World → Prop} {k : Value → Prop} (hne : ∃ w, S w) (h : ∀ w, S w → w.cell? a = some v) : (std Try.prog).stepS S (sLoad 61 (.pointer (some a))) k = k v := stepS_run hne fun w hw => run_sLoad (run_loadVar1 ag61 (h w hw))
theorem px_add {t : TypeId} {x y : Operand} {q : IntKind} {a b : Int}  {w : World} {K : Value → World → Prop} : (std Try.prog).step (sBin .add t x y (.int q a) (.int q b)) w K = K (.int q (q.wrap (a + b))) w := step_run (r_add)
theorem sx_add {t : TypeId} {x y : Operand} {q : IntKind} {a b : Int}  {S : World → Prop} {k : Value → Prop} (hne : ∃ w, S w) : (std Try.prog).stepS S (sBin .add t x y (.int q a) (.int q b)) k = k (.int q (q.wrap (a + b))) := stepS_run hne fun _ _ => r_add
theorem px_sub {t : TypeId} {x y : Operand} {q : IntKind} {a b : Int}  {w : World} {K : Value → World → Prop} : (std Try.prog).step (sBin .sub t x y (.int q a) (.int q b)) w K = K (.int q (q.wrap (a - b))) w := step_run (r_sub)
theorem sx_sub {t : TypeId} {x y : Operand} {q : IntKind} {a b : Int}  {S : World → Prop} {k : Value → Prop} (hne : ∃ w, S w) : (std Try.prog).stepS S (sBin .sub t x y (.int q a) (.int q b)) k = k (.int q (q.wrap (a - b))) := stepS_run hne fun _ _ => r_sub
theorem px_mul {t : TypeId} {x y : Operand} {q : IntKind} {a b : Int}  {w : World} {K : Value → World → Prop} : (std Try.prog).step (sBin .mul t x y (.int q a) (.int q b)) w K = K (.int q (q.wrap (a * b))) w := step_run (r_mul)
theorem sx_mul {t : TypeId} {x y : Operand} {q : IntKind} {a b : Int}  {S : World → Prop} {k : Value → Prop} (hne : ∃ w, S w) : (std Try.prog).stepS S (sBin .mul t x y (.int q a) (.int q b)) k = k (.int q (q.wrap (a * b))) := stepS_run hne fun _ _ => r_mul
theorem px_and {t : TypeId} {x y : Operand} {q : IntKind} {a b : Int}  {w : World} {K : Value → World → Prop} : (std Try.prog).step (sBin .and t x y (.int q a) (.int q b)) w K = K (.int q (bitOp .and q a b)) w := step_run (r_and)
theorem sx_and {t : TypeId} {x y : Operand} {q : IntKind} {a b : Int}  {S : World → Prop} {k : Value → Prop} (hne : ∃ w, S w) : (std Try.prog).stepS S (sBin .and t x y (.int q a) (.int q b)) k = k (.int q (bitOp .and q a b)) := stepS_run hne fun _ _ => r_and
theorem px_or {t : TypeId} {x y : Operand} {q : IntKind} {a b : Int}  {w : World} {K : Value → World → Prop} : (std Try.prog).step (sBin .or t x y (.int q a) (.int q b)) w K = K (.int q (bitOp .or q a b)) w := step_run (r_or)
theorem sx_or {t : TypeId} {x y : Operand} {q : IntKind} {a b : Int}  {S : World → Prop} {k : Value → Prop} (hne : ∃ w, S w) : (std Try.prog).stepS S (sBin .or t x y (.int q a) (.int q b)) k = k (.int q (bitOp .or q a b)) := stepS_run hne fun _ _ => r_or
theorem px_xor {t : TypeId} {x y : Operand} {q : IntKind} {a b : Int}  {w : World} {K : Value → World → Prop} : (std Try.prog).step (sBin .xor t x y (.int q a) (.int q b)) w K = K (.int q (bitOp .xor q a b)) w := step_run (r_xor)
theorem sx_xor {t : TypeId} {x y : Operand} {q : IntKind} {a b : Int}  {S : World → Prop} {k : Value → Prop} (hne : ∃ w, S w) : (std Try.prog).stepS S (sBin .xor t x y (.int q a) (.int q b)) k = k (.int q (bitOp .xor q a b)) := stepS_run hne fun _ _ => r_xor
theorem px_lss {t : TypeId} {x y : Operand} {q : IntKind} {a b : Int}  {w : World} {K : Value → World → Prop} : (std Try.prog).step (sBin .lss t x y (.int q a) (.int q b)) w K = K (.bool (decide (a < b))) w := step_run (r_lss)
theorem sx_lss {t : TypeId} {x y : Operand} {q : IntKind} {a b : Int}  {S : World → Prop} {k : Value → Prop} (hne : ∃ w, S w) : (std Try.prog).stepS S (sBin .lss t x y (.int q a) (.int q b)) k = k (.bool (decide (a < b))) := stepS_run hne fun _ _ => r_lss
theorem px_leq {t : TypeId} {x y : Operand} {q : IntKind} {a b : Int}  {w : World} {K : Value → World → Prop} : (std Try.prog).step (sBin .leq t x y (.int q a) (.int q b)) w K = K (.bool (decide (a ≤ b))) w := step_run (r_leq)
theorem sx_leq {t : TypeId} {x y : Operand} {q : IntKind} {a b : Int}  {S : World → Prop} {k : Value → Prop} (hne : ∃ w, S w) : (std Try.prog).stepS S (sBin .leq t x y (.int q a) (.int q b)) k = k (.bool (decide (a ≤ b))) := stepS_run hne fun _ _ => r_leq
theorem px_gtr {t : TypeId} {x y : Operand} {q : IntKind} {a b : Int}  {w : World} {K : Value → World → Prop} : (std Try.prog).step (sBin .gtr t x y (.int q a) (.int q b)) w K = K (.bool (decide (b < a))) w := step_run (r_gtr)
theorem sx_gtr {t : TypeId} {x y : Operand} {q : IntKind} {a b : Int}  {S : World → Prop} {k : Value → Prop} (hne : ∃ w, S w) : (std Try.prog).stepS S (sBin .gtr t x y (.int q a) (.int q b)) k = k (.bool (decide (b < a))) := stepS_run hne fun _ _ => r_gtr
theorem px_geq {t : TypeId} {x y : Operand} {q : IntKind} {a b : Int}  {w : World} {K : Value → World → Prop} : (std Try.prog).step (sBin .geq t x y (.int q a) (.int q b)) w K = K (.bool (decide (b ≤ a))) w := step_run (r_geq)
theorem sx_geq {t : TypeId} {x y : Operand} {q : IntKind} {a b : Int}  {S : World → Prop} {k : Value → Prop} (hne : ∃ w, S w) : (std Try.prog).stepS S (sBin .geq t x y (.int q a) (.int q b)) k = k (.bool (decide (b ≤ a))) := stepS_run hne fun _ _ => r_geq
theorem px_eql {t : TypeId} {x y : Operand} {q : IntKind} {a b : Int}  {w : World} {K : Value → World → Prop} : (std Try.prog).step (sBin .eql t x y (.int q a) (.int q b)) w K = K (.bool (decide (a = b))) w := step_run (r_eql)
theorem sx_eql {t : TypeId} {x y : Operand} {q : IntKind} {a b : Int}  {S : World → Prop} {k : Value → Prop} (hne : ∃ w, S w) : (std Try.prog).stepS S (sBin .eql t x y (.int q a) (.int q b)) k = k (.bool (decide (a = b))) := stepS_run hne fun _ _ => r_eql
theorem px_neq {t : TypeId} {x y : Operand} {q : IntKind} {a b : Int}  {w : World} {K : Value → World → Prop} : (std Try.prog).step (sBin .neq t x y (.int q a) (.int q b)) w K = K (.bool (decide (a ≠ b))) w := step_run (r_neq)
theorem sx_neq {t : TypeId} {x y : Operand} {q : IntKind} {a b : Int}  {S : World → Prop} {k : Value → Prop} (hne : ∃ w, S w) : (std Try.prog).stepS S (sBin .neq t x y (.int q a) (.int q b)) k = k (.bool (decide (a ≠ b))) := stepS_run hne fun _ _ => r_neq
theorem px_quo {t : TypeId} {x y : Operand} {q : IntKind} {a b : Int} (h : b ≠ 0) {w : World} {K : Value → World → Prop} : (std Try.prog).step (sBin .quo t x y (.int q a) (.int q b)) w K = K (.int q (q.wrap (a.tdiv b))) w := step_run (r_quo h)
theorem sx_quo {t : TypeId} {x y : Operand} {q : IntKind} {a b : Int} (h : b ≠ 0) {S : World → Prop} {k : Value → Prop} (hne : ∃ w, S w) : (std Try.prog).stepS S (sBin .quo t x y (.int q a) (.int q b)) k = k (.int q (q.wrap (a.tdiv b))) := stepS_run hne fun _ _ => r_quo h
theorem px_rem {t : TypeId} {x y : Operand} {q : IntKind} {a b : Int} (h : b ≠ 0) {w : World} {K : Value → World → Prop} : (std Try.prog).step (sBin .rem t x y (.int q a) (.int q b)) w K = K (.int q (a.tmod b)) w := step_run (r_rem h)
theorem sx_rem {t : TypeId} {x y : Operand} {q : IntKind} {a b : Int} (h : b ≠ 0) {S : World → Prop} {k : Value → Prop} (hne : ∃ w, S w) : (std Try.prog).stepS S (sBin .rem t x y (.int q a) (.int q b)) k = k (.int q (a.tmod b)) := stepS_run hne fun _ _ => r_rem h
theorem px_shl {t : TypeId} {x y : Operand} {q q' : IntKind} {a b : Int} (h : ¬ b < 0) {w : World} {K : Value → World → Prop} : (std Try.prog).step (sBin .shl t x y (.int q a) (.int q' b)) w K = K (.int q (q.wrap (a * 2 ^ (min b.toNat q.bits)))) w := step_run (r_shl h)
theorem sx_shl {t : TypeId} {x y : Operand} {q q' : IntKind} {a b : Int} (h : ¬ b < 0) {S : World → Prop} {k : Value → Prop} (hne : ∃ w, S w) : (std Try.prog).stepS S (sBin .shl t x y (.int q a) (.int q' b)) k = k (.int q (q.wrap (a * 2 ^ (min b.toNat q.bits)))) := stepS_run hne fun _ _ => r_shl h
theorem px_shr {t : TypeId} {x y : Operand} {q q' : IntKind} {a b : Int} (h : ¬ b < 0) {w : World} {K : Value → World → Prop} : (std Try.prog).step (sBin .shr t x y (.int q a) (.int q' b)) w K = K (.int q (a.fdiv (2 ^ (min b.toNat q.bits)))) w := step_run (r_shr h)
theorem sx_shr {t : TypeId} {x y : Operand} {q q' : IntKind} {a b : Int} (h : ¬ b < 0) {S : World → Prop} {k : Value → Prop} (hne : ∃ w, S w) : (std Try.prog).stepS S (sBin .shr t x y (.int q a) (.int q' b)) k = k (.int q (a.fdiv (2 ^ (min b.toNat q.bits)))) := stepS_run hne fun _ _ => r_shr h
theorem px_seql {t : TypeId} {x y : Operand} {a b : ByteArray}  {w : World} {K : Value → World → Prop} : (std Try.prog).step (sBin .eql t x y (.string a) (.string b)) w K = K (.bool (decide (a = b))) w := step_run (r_seql)
theorem sx_seql {t : TypeId} {x y : Operand} {a b : ByteArray}  {S : World → Prop} {k : Value → Prop} (hne : ∃ w, S w) : (std Try.prog).stepS S (sBin .eql t x y (.string a) (.string b)) k = k (.bool (decide (a = b))) := stepS_run hne fun _ _ => r_seql
theorem px_sneq {t : TypeId} {x y : Operand} {a b : ByteArray}  {w : World} {K : Value → World → Prop} : (std Try.prog).step (sBin .neq t x y (.string a) (.string b)) w K = K (.bool (!decide (a = b))) w := step_run (r_sneq)
theorem sx_sneq {t : TypeId} {x y : Operand} {a b : ByteArray}  {S : World → Prop} {k : Value → Prop} (hne : ∃ w, S w) : (std Try.prog).stepS S (sBin .neq t x y (.string a) (.string b)) k = k (.bool (!decide (a = b))) := stepS_run hne fun _ _ => r_sneq
theorem px_sadd {t : TypeId} {x y : Operand} {a b : ByteArray} (h : a.size + b.size ≤ 9223372036854775807) {w : World} {K : Value → World → Prop} : (std Try.prog).step (sBin .add t x y (.string a) (.string b)) w K = K (.string (a ++ b)) w := step_run (r_sadd h)
theorem sx_sadd {t : TypeId} {x y : Operand} {a b : ByteArray} (h : a.size + b.size ≤ 9223372036854775807) {S : World → Prop} {k : Value → Prop} (hne : ∃ w, S w) : (std Try.prog).stepS S (sBin .add t x y (.string a) (.string b)) k = k (.string (a ++ b)) := stepS_run hne fun _ _ => r_sadd h
theorem px_not {b : Bool}  {w : World} {K : Value → World → Prop} : (std Try.prog).step (sUn .not (.bool b)) w K = K (.bool (!b)) w := step_run (r_not)
theorem sx_not {b : Bool}  {S : World → Prop} {k : Value → Prop} (hne : ∃ w, S w) : (std Try.prog).stepS S (sUn .not (.bool b)) k = k (.bool (!b)) := stepS_run hne fun _ _ => r_not
theorem px_neg {q : IntKind} {a : Int}  {w : World} {K : Value → World → Prop} : (std Try.prog).step (sUn .neg (.int q a)) w K = K (.int q (q.wrap (0 - a))) w := step_run (r_neg)
theorem sx_neg {q : IntKind} {a : Int}  {S : World → Prop} {k : Value → Prop} (hne : ∃ w, S w) : (std Try.prog).stepS S (sUn .neg (.int q a)) k = k (.int q (q.wrap (0 - a))) := stepS_run hne fun _ _ => r_neg
theorem px_inv {q : IntKind} {a : Int}  {w : World} {K : Value → World → Prop} : (std Try.prog).step (sUn .xor (.int q a)) w K = K (.int q (bitOp .xor q (if q.signed then -1 else q.max) a)) w := step_run (r_inv)
theorem sx_inv {q : IntKind} {a : Int}  {S : World → Prop} {k : Value → Prop} (hne : ∃ w, S w) : (std Try.prog).stepS S (sUn .xor (.int q a)) k = k (.int q (bitOp .xor q (if q.signed then -1 else q.max) a)) := stepS_run hne fun _ _ => r_inv
theorem px_nilc {a : Addr}  {w : World} {K : Value → World → Prop} : (std Try.prog).step (sNil (.pointer (some a))) w K = K (.pointer (some a)) w := step_run (r_nil)
theorem sx_nilc {a : Addr}  {S : World → Prop} {k : Value → Prop} (hne : ∃ w, S w) : (std Try.prog).stepS S (sNil (.pointer (some a))) k = k (.pointer (some a)) := stepS_run hne fun _ _ => r_nil
theorem px_ext20 {a b : Value}  {w : World} {K : Value → World → Prop} : (std Try.prog).step (sExtract (.tuple #[a, b]) 0) w K = K (a) w := step_run (r_ext20)
theorem sx_ext20 {a b : Value}  {S : World → Prop} {k : Value → Prop} (hne : ∃ w, S w) : (std Try.prog).stepS S (sExtract (.tuple #[a, b]) 0) k = k (a) := stepS_run hne fun _ _ => r_ext20
theorem px_ext21 {a b : Value}  {w : World} {K : Value → World → Prop} : (std Try.prog).step (sExtract (.tuple #[a, b]) 1) w K = K (b) w := step_run (r_ext21)
theorem sx_ext21 {a b : Value}  {S : World → Prop} {k : Value → Prop} (hne : ∃ w, S w) : (std Try.prog).stepS S (sExtract (.tuple #[a, b]) 1) k = k (b) := stepS_run hne fun _ _ => r_ext21
theorem px_ext30 {a b c : Value}  {w : World} {K : Value → World → Prop} : (std Try.prog).step (sExtract (.tuple #[a, b, c]) 0) w K = K (a) w := step_run (r_ext30)
theorem sx_ext30 {a b c : Value}  {S : World → Prop} {k : Value → Prop} (hne : ∃ w, S w) : (std Try.prog).stepS S (sExtract (.tuple #[a, b, c]) 0) k = k (a) := stepS_run hne fun _ _ => r_ext30
theorem px_ext31 {a b c : Value}  {w : World} {K : Value → World → Prop} : (std Try.prog).step (sExtract (.tuple #[a, b, c]) 1) w K = K (b) w := step_run (r_ext31)
theorem sx_ext31 {a b c : Value}  {S : World → Prop} {k : Value → Prop} (hne : ∃ w, S w) : (std Try.prog).stepS S (sExtract (.tuple #[a, b, c]) 1) k = k (b) := stepS_run hne fun _ _ => r_ext31
theorem px_ext32 {a b c : Value}  {w : World} {K : Value → World → Prop} : (std Try.prog).step (sExtract (.tuple #[a, b, c]) 2) w K = K (c) w := step_run (r_ext32)
theorem sx_ext32 {a b c : Value}  {S : World → Prop} {k : Value → Prop} (hne : ∃ w, S w) : (std Try.prog).stepS S (sExtract (.tuple #[a, b, c]) 2) k = k (c) := stepS_run hne fun _ _ => r_ext32
theorem px_min {ats : Array TypeId} {ty : TypeId} {c : List Bool} {q : IntKind} {a b : Int}  {w : World} {K : Value → World → Prop} : (std Try.prog).step (sBuiltin .min ats ty c [.int q a, .int q b]) w K = K (.int q (if b < a then b else a)) w := step_run (r_min)
theorem sx_min {ats : Array TypeId} {ty : TypeId} {c : List Bool} {q : IntKind} {a b : Int}  {S : World → Prop} {k : Value → Prop} (hne : ∃ w, S w) : (std Try.prog).stepS S (sBuiltin .min ats ty c [.int q a, .int q b]) k = k (.int q (if b < a then b else a)) := stepS_run hne fun _ _ => r_min
theorem px_max {ats : Array TypeId} {ty : TypeId} {c : List Bool} {q : IntKind} {a b : Int}  {w : World} {K : Value → World → Prop} : (std Try.prog).step (sBuiltin .max ats ty c [.int q a, .int q b]) w K = K (.int q (if a < b then b else a)) w := step_run (r_max)
theorem sx_max {ats : Array TypeId} {ty : TypeId} {c : List Bool} {q : IntKind} {a b : Int}  {S : World → Prop} {k : Value → Prop} (hne : ∃ w, S w) : (std Try.prog).stepS S (sBuiltin .max ats ty c [.int q a, .int q b]) k = k (.int q (if a < b then b else a)) := stepS_run hne fun _ _ => r_max
theorem px_beql4 {x y : Operand} {a b : Bool}  {w : World} {K : Value → World → Prop} : (std Try.prog).step (sBin .eql 4 x y (.bool a) (.bool b)) w K = K (.bool (a == b)) w := step_run (r_beql u4)
theorem sx_beql4 {x y : Operand} {a b : Bool}  {S : World → Prop} {k : Value → Prop} (hne : ∃ w, S w) : (std Try.prog).stepS S (sBin .eql 4 x y (.bool a) (.bool b)) k = k (.bool (a == b)) := stepS_run hne fun _ _ => r_beql u4
theorem px_bneq4 {x y : Operand} {a b : Bool}  {w : World} {K : Value → World → Prop} : (std Try.prog).step (sBin .neq 4 x y (.bool a) (.bool b)) w K = K (.bool (!(a == b))) w := step_run (r_bneq u4)
theorem sx_bneq4 {x y : Operand} {a b : Bool}  {S : World → Prop} {k : Value → Prop} (hne : ∃ w, S w) : (std Try.prog).stepS S (sBin .neq 4 x y (.bool a) (.bool b)) k = k (.bool (!(a == b))) := stepS_run hne fun _ _ => r_bneq u4
theorem px_len22 {ty : TypeId} {c : List Bool} {A : Option Addr} {n m : Nat}  {w : World} {K : Value → World → Prop} : (std Try.prog).step (sBuiltin .len #[22] ty c [.slice A n m]) w K = K (.int .i64 n) w := step_run (r_lens u22)
theorem sx_len22 {ty : TypeId} {c : List Bool} {A : Option Addr} {n m : Nat}  {S : World → Prop} {k : Value → Prop} (hne : ∃ w, S w) : (std Try.prog).stepS S (sBuiltin .len #[22] ty c [.slice A n m]) k = k (.int .i64 n) := stepS_run hne fun _ _ => r_lens u22
theorem px_len23 {ty : TypeId} {c : List Bool} {A : Option Addr} {n m : Nat}  {w : World} {K : Value → World → Prop} : (std Try.prog).step (sBuiltin .len #[23] ty c [.slice A n m]) w K = K (.int .i64 n) w := step_run (r_lens u23)
theorem sx_len23 {ty : TypeId} {c : List Bool} {A : Option Addr} {n m : Nat}  {S : World → Prop} {k : Value → Prop} (hne : ∃ w, S w) : (std Try.prog).stepS S (sBuiltin .len #[23] ty c [.slice A n m]) k = k (.int .i64 n) := stepS_run hne fun _ _ => r_lens u23
theorem px_len33 {ty : TypeId} {c : List Bool} {A : Option Addr} {n m : Nat}  {w : World} {K : Value → World → Prop} : (std Try.prog).step (sBuiltin .len #[33] ty c [.slice A n m]) w K = K (.int .i64 n) w := step_run (r_lens u33)
theorem sx_len33 {ty : TypeId} {c : List Bool} {A : Option Addr} {n m : Nat}  {S : World → Prop} {k : Value → Prop} (hne : ∃ w, S w) : (std Try.prog).stepS S (sBuiltin .len #[33] ty c [.slice A n m]) k = k (.int .i64 n) := stepS_run hne fun _ _ => r_lens u33
theorem px_len36 {ty : TypeId} {c : List Bool} {A : Option Addr} {n m : Nat}  {w : World} {K : Value → World → Prop} : (std Try.prog).step (sBuiltin .len #[36] ty c [.slice A n m]) w K = K (.int .i64 n) w := step_run (r_lens u36)
theorem sx_len36 {ty : TypeId} {c : List Bool} {A : Option Addr} {n m : Nat}  {S : World → Prop} {k : Value → Prop} (hne : ∃ w, S w) : (std Try.prog).stepS S (sBuiltin .len #[36] ty c [.slice A n m]) k = k (.int .i64 n) := stepS_run hne fun _ _ => r_lens u36
theorem px_len52 {ty : TypeId} {c : List Bool} {A : Option Addr} {n m : Nat}  {w : World} {K : Value → World → Prop} : (std Try.prog).step (sBuiltin .len #[52] ty c [.slice A n m]) w K = K (.int .i64 n) w := step_run (r_lens u52)
theorem sx_len52 {ty : TypeId} {c : List Bool} {A : Option Addr} {n m : Nat}  {S : World → Prop} {k : Value → Prop} (hne : ∃ w, S w) : (std Try.prog).stepS S (sBuiltin .len #[52] ty c [.slice A n m]) k = k (.int .i64 n) := stepS_run hne fun _ _ => r_lens u52
theorem px_len58 {ty : TypeId} {c : List Bool} {A : Option Addr} {n m : Nat}  {w : World} {K : Value → World → Prop} : (std Try.prog).step (sBuiltin .len #[58] ty c [.slice A n m]) w K = K (.int .i64 n) w := step_run (r_lens u58)
theorem sx_len58 {ty : TypeId} {c : List Bool} {A : Option Addr} {n m : Nat}  {S : World → Prop} {k : Value → Prop} (hne : ∃ w, S w) : (std Try.prog).stepS S (sBuiltin .len #[58] ty c [.slice A n m]) k = k (.int .i64 n) := stepS_run hne fun _ _ => r_lens u58
theorem px_fa32_0 {a : Addr}  {w : World} {K : Value → World → Prop} : (std Try.prog).step (sFieldAddr 32 (.pointer (some a)) 0) w K = K (.pointer (some (a))) w := step_run (rfa32_0)
theorem sx_fa32_0 {a : Addr}  {S : World → Prop} {k : Value → Prop} (hne : ∃ w, S w) : (std Try.prog).stepS S (sFieldAddr 32 (.pointer (some a)) 0) k = k (.pointer (some (a))) := stepS_run hne fun _ _ => rfa32_0
theorem px_fa32_1 {a : Addr}  {w : World} {K : Value → World → Prop} : (std Try.prog).step (sFieldAddr 32 (.pointer (some a)) 1) w K = K (.pointer (some (a.add 1))) w := step_run (rfa32_1)
theorem sx_fa32_1 {a : Addr}  {S : World → Prop} {k : Value → Prop} (hne : ∃ w, S w) : (std Try.prog).stepS S (sFieldAddr 32 (.pointer (some a)) 1) k = k (.pointer (some (a.add 1))) := stepS_run hne fun _ _ => rfa32_1
theorem px_fa32_2 {a : Addr}  {w : World} {K : Value → World → Prop} : (std Try.prog).step (sFieldAddr 32 (.pointer (some a)) 2) w K = K (.pointer (some (a.add 2))) w := step_run (rfa32_2)
theorem sx_fa32_2 {a : Addr}  {S : World → Prop} {k : Value → Prop} (hne : ∃ w, S w) : (std Try.prog).stepS S (sFieldAddr 32 (.pointer (some a)) 2) k = k (.pointer (some (a.add 2))) := stepS_run hne fun _ _ => rfa32_2
theorem px_fa46_0 {a : Addr}  {w : World} {K : Value → World → Prop} : (std Try.prog).step (sFieldAddr 46 (.pointer (some a)) 0) w K = K (.pointer (some (a))) w := step_run (rfa46_0)
theorem sx_fa46_0 {a : Addr}  {S : World → Prop} {k : Value → Prop} (hne : ∃ w, S w) : (std Try.prog).stepS S (sFieldAddr 46 (.pointer (some a)) 0) k = k (.pointer (some (a))) := stepS_run hne fun _ _ => rfa46_0
theorem px_fa46_1 {a : Addr}  {w : World} {K : Value → World → Prop} : (std Try.prog).step (sFieldAddr 46 (.pointer (some a)) 1) w K = K (.pointer (some (a.add 1))) w := step_run (rfa46_1)
theorem sx_fa46_1 {a : Addr}  {S : World → Prop} {k : Value → Prop} (hne : ∃ w, S w) : (std Try.prog).stepS S (sFieldAddr 46 (.pointer (some a)) 1) k = k (.pointer (some (a.add 1))) := stepS_run hne fun _ _ => rfa46_1
theorem px_fa46_2 {a : Addr}  {w : World} {K : Value → World → Prop} : (std Try.prog).step (sFieldAddr 46 (.pointer (some a)) 2) w K = K (.pointer (some (a.add 2))) w := step_run (rfa46_2)
theorem sx_fa46_2 {a : Addr}  {S : World → Prop} {k : Value → Prop} (hne : ∃ w, S w) : (std Try.prog).stepS S (sFieldAddr 46 (.pointer (some a)) 2) k = k (.pointer (some (a.add 2))) := stepS_run hne fun _ _ => rfa46_2
theorem px_fa46_3 {a : Addr}  {w : World} {K : Value → World → Prop} : (std Try.prog).step (sFieldAddr 46 (.pointer (some a)) 3) w K = K (.pointer (some (a.add 3))) w := step_run (rfa46_3)
theorem sx_fa46_3 {a : Addr}  {S : World → Prop} {k : Value → Prop} (hne : ∃ w, S w) : (std Try.prog).stepS S (sFieldAddr 46 (.pointer (some a)) 3) k = k (.pointer (some (a.add 3))) := stepS_run hne fun _ _ => rfa46_3
theorem px_fa60_0 {a : Addr}  {w : World} {K : Value → World → Prop} : (std Try.prog).step (sFieldAddr 60 (.pointer (some a)) 0) w K = K (.pointer (some (a))) w := step_run (rfa60_0)
theorem sx_fa60_0 {a : Addr}  {S : World → Prop} {k : Value → Prop} (hne : ∃ w, S w) : (std Try.prog).stepS S (sFieldAddr 60 (.pointer (some a)) 0) k = k (.pointer (some (a))) := stepS_run hne fun _ _ => rfa60_0
theorem px_fa63_0 {a : Addr}  {w : World} {K : Value → World → Prop} : (std Try.prog).step (sFieldAddr 63 (.pointer (some a)) 0) w K = K (.pointer (some (a))) w := step_run (rfa63_0)
theorem sx_fa63_0 {a : Addr}  {S : World → Prop} {k : Value → Prop} (hne : ∃ w, S w) : (std Try.prog).stepS S (sFieldAddr 63 (.pointer (some a)) 0) k = k (.pointer (some (a))) := stepS_run hne fun _ _ => rfa63_0
theorem px_fa63_1 {a : Addr}  {w : World} {K : Value → World → Prop} : (std Try.prog).step (sFieldAddr 63 (.pointer (some a)) 1) w K = K (.pointer (some (a.add 1))) w := step_run (rfa63_1)
theorem sx_fa63_1 {a : Addr}  {S : World → Prop} {k : Value → Prop} (hne : ∃ w, S w) : (std Try.prog).stepS S (sFieldAddr 63 (.pointer (some a)) 1) k = k (.pointer (some (a.add 1))) := stepS_run hne fun _ _ => rfa63_1
theorem px_fa63_2 {a : Addr}  {w : World} {K : Value → World → Prop} : (std Try.prog).step (sFieldAddr 63 (.pointer (some a)) 2) w K = K (.pointer (some (a.add 2))) w := step_run (rfa63_2)
theorem sx_fa63_2 {a : Addr}  {S : World → Prop} {k : Value → Prop} (hne : ∃ w, S w) : (std Try.prog).stepS S (sFieldAddr 63 (.pointer (some a)) 2) k = k (.pointer (some (a.add 2))) := stepS_run hne fun _ _ => rfa63_2
theorem px_fa63_3 {a : Addr}  {w : World} {K : Value → World → Prop} : (std Try.prog).step (sFieldAddr 63 (.pointer (some a)) 3) w K = K (.pointer (some (a.add 3))) w := step_run (rfa63_3)
theorem sx_fa63_3 {a : Addr}  {S : World → Prop} {k : Value → Prop} (hne : ∃ w, S w) : (std Try.prog).stepS S (sFieldAddr 63 (.pointer (some a)) 3) k = k (.pointer (some (a.add 3))) := stepS_run hne fun _ _ => rfa63_3
theorem px_fa63_4 {a : Addr}  {w : World} {K : Value → World → Prop} : (std Try.prog).step (sFieldAddr 63 (.pointer (some a)) 4) w K = K (.pointer (some (a.add 4))) w := step_run (rfa63_4)
theorem sx_fa63_4 {a : Addr}  {S : World → Prop} {k : Value → Prop} (hne : ∃ w, S w) : (std Try.prog).stepS S (sFieldAddr 63 (.pointer (some a)) 4) k = k (.pointer (some (a.add 4))) := stepS_run hne fun _ _ => rfa63_4
theorem px_fa68_0 {a : Addr}  {w : World} {K : Value → World → Prop} : (std Try.prog).step (sFieldAddr 68 (.pointer (some a)) 0) w K = K (.pointer (some (a))) w := step_run (rfa68_0)
theorem sx_fa68_0 {a : Addr}  {S : World → Prop} {k : Value → Prop} (hne : ∃ w, S w) : (std Try.prog).stepS S (sFieldAddr 68 (.pointer (some a)) 0) k = k (.pointer (some (a))) := stepS_run hne fun _ _ => rfa68_0
theorem px_fa68_1 {a : Addr}  {w : World} {K : Value → World → Prop} : (std Try.prog).step (sFieldAddr 68 (.pointer (some a)) 1) w K = K (.pointer (some (a.add 1))) w := step_run (rfa68_1)
theorem sx_fa68_1 {a : Addr}  {S : World → Prop} {k : Value → Prop} (hne : ∃ w, S w) : (std Try.prog).stepS S (sFieldAddr 68 (.pointer (some a)) 1) k = k (.pointer (some (a.add 1))) := stepS_run hne fun _ _ => rfa68_1
theorem px_fa68_2 {a : Addr}  {w : World} {K : Value → World → Prop} : (std Try.prog).step (sFieldAddr 68 (.pointer (some a)) 2) w K = K (.pointer (some (a.add 2))) w := step_run (rfa68_2)
theorem sx_fa68_2 {a : Addr}  {S : World → Prop} {k : Value → Prop} (hne : ∃ w, S w) : (std Try.prog).stepS S (sFieldAddr 68 (.pointer (some a)) 2) k = k (.pointer (some (a.add 2))) := stepS_run hne fun _ _ => rfa68_2
theorem px_fa68_3 {a : Addr}  {w : World} {K : Value → World → Prop} : (std Try.prog).step (sFieldAddr 68 (.pointer (some a)) 3) w K = K (.pointer (some (a.add 3))) w := step_run (rfa68_3)
theorem sx_fa68_3 {a : Addr}  {S : World → Prop} {k : Value → Prop} (hne : ∃ w, S w) : (std Try.prog).stepS S (sFieldAddr 68 (.pointer (some a)) 3) k = k (.pointer (some (a.add 3))) := stepS_run hne fun _ _ => rfa68_3
theorem px_fa68_4 {a : Addr}  {w : World} {K : Value → World → Prop} : (std Try.prog).step (sFieldAddr 68 (.pointer (some a)) 4) w K = K (.pointer (some (a.add 4))) w := step_run (rfa68_4)
theorem sx_fa68_4 {a : Addr}  {S : World → Prop} {k : Value → Prop} (hne : ∃ w, S w) : (std Try.prog).stepS S (sFieldAddr 68 (.pointer (some a)) 4) k = k (.pointer (some (a.add 4))) := stepS_run hne fun _ _ => rfa68_4
theorem px_ix22 {a : Addr} {n c i : Nat} (h : i < n) {w : World} {K : Value → World → Prop} : (std Try.prog).step (sIndexAddr 22 (.slice (some a) n c) (.int .i64 (i : Nat))) w K = K (.pointer (some (a.add (i)))) w := step_run (rix22 h)
theorem sx_ix22 {a : Addr} {n c i : Nat} (h : i < n) {S : World → Prop} {k : Value → Prop} (hne : ∃ w, S w) : (std Try.prog).stepS S (sIndexAddr 22 (.slice (some a) n c) (.int .i64 (i : Nat))) k = k (.pointer (some (a.add (i)))) := stepS_run hne fun _ _ => rix22 h
theorem px_ix23 {a : Addr} {n c i : Nat} (h : i < n) {w : World} {K : Value → World → Prop} : (std Try.prog).step (sIndexAddr 23 (.slice (some a) n c) (.int .i64 (i : Nat))) w K = K (.pointer (some (a.add (i * 3)))) w := step_run (rix23 h)
theorem sx_ix23 {a : Addr} {n c i : Nat} (h : i < n) {S : World → Prop} {k : Value → Prop} (hne : ∃ w, S w) : (std Try.prog).stepS S (sIndexAddr 23 (.slice (some a) n c) (.int .i64 (i : Nat))) k = k (.pointer (some (a.add (i * 3)))) := stepS_run hne fun _ _ => rix23 h
theorem px_ix33 {a : Addr} {n c i : Nat} (h : i < n) {w : World} {K : Value → World → Prop} : (std Try.prog).step (sIndexAddr 33 (.slice (some a) n c) (.int .i64 (i : Nat))) w K = K (.pointer (some (a.add (i * 5)))) w := step_run (rix33 h)
theorem sx_ix33 {a : Addr} {n c i : Nat} (h : i < n) {S : World → Prop} {k : Value → Prop} (hne : ∃ w, S w) : (std Try.prog).stepS S (sIndexAddr 33 (.slice (some a) n c) (.int .i64 (i : Nat))) k = k (.pointer (some (a.add (i * 5)))) := stepS_run hne fun _ _ => rix33 h
theorem px_ix36 {a : Addr} {n c i : Nat} (h : i < n) {w : World} {K : Value → World → Prop} : (std Try.prog).step (sIndexAddr 36 (.slice (some a) n c) (.int .i64 (i : Nat))) w K = K (.pointer (some (a.add (i)))) w := step_run (rix36 h)
theorem sx_ix36 {a : Addr} {n c i : Nat} (h : i < n) {S : World → Prop} {k : Value → Prop} (hne : ∃ w, S w) : (std Try.prog).stepS S (sIndexAddr 36 (.slice (some a) n c) (.int .i64 (i : Nat))) k = k (.pointer (some (a.add (i)))) := stepS_run hne fun _ _ => rix36 h
theorem px_ix52 {a : Addr} {n c i : Nat} (h : i < n) {w : World} {K : Value → World → Prop} : (std Try.prog).step (sIndexAddr 52 (.slice (some a) n c) (.int .i64 (i : Nat))) w K = K (.pointer (some (a.add (i * 5)))) w := step_run (rix52 h)
theorem sx_ix52 {a : Addr} {n c i : Nat} (h : i < n) {S : World → Prop} {k : Value → Prop} (hne : ∃ w, S w) : (std Try.prog).stepS S (sIndexAddr 52 (.slice (some a) n c) (.int .i64 (i : Nat))) k = k (.pointer (some (a.add (i * 5)))) := stepS_run hne fun _ _ => rix52 h
theorem px_ix58 {a : Addr} {n c i : Nat} (h : i < n) {w : World} {K : Value → World → Prop} : (std Try.prog).step (sIndexAddr 58 (.slice (some a) n c) (.int .i64 (i : Nat))) w K = K (.pointer (some (a.add (i)))) w := step_run (rix58 h)
theorem sx_ix58 {a : Addr} {n c i : Nat} (h : i < n) {S : World → Prop} {k : Value → Prop} (hne : ∃ w, S w) : (std Try.prog).stepS S (sIndexAddr 58 (.slice (some a) n c) (.int .i64 (i : Nat))) k = k (.pointer (some (a.add (i)))) := stepS_run hne fun _ _ => rix58 h
/-- the rules for single steps, all at once -/
theorem PX : (∀ {t : TypeId} {x y : Operand} {q : IntKind} {a b : Int}  {w : World} {K : Value → World → Prop}, (std Try.prog).step (sBin .add t x y (.int q a) (.int q b)) w K = K (.int q (q.wrap (a + b))) w) ∧
  (∀ {t : TypeId} {x y : Operand} {q : IntKind} {a b : Int}  {w : World} {K : Value → World → Prop}, (std Try.prog).step (sBin .sub t x y (.int q a) (.int q b)) w K = K (.int q (q.wrap (a - b))) w) ∧
  (∀ {t : TypeId} {x y : Operand} {q : IntKind} {a b : Int}  {w : World} {K : Value → World → Prop}, (std Try.prog).step (sBin .mul t x y (.int q a) (.int q b)) w K = K (.int q (q.wrap (a * b))) w) ∧
  (∀ {t : TypeId} {x y : Operand} {q : IntKind} {a b : Int}  {w : World} {K : Value → World → Prop}, (std Try.prog).step (sBin .and t x y (.int q a) (.int q b)) w K = K (.int q (bitOp .and q a b)) w) ∧
  (∀ {t : TypeId} {x y : Operand} {q : IntKind} {a b : Int}  {w : World} {K : Value → World → Prop}, (std Try.prog).step (sBin .or t x y (.int q a) (.int q b)) w K = K (.int q (bitOp .or q a b)) w) ∧
  (∀ {t : TypeId} {x y : Operand} {q : IntKind} {a b : Int}  {w : World} {K : Value → World → Prop}, (std Try.prog).step (sBin .xor t x y (.int q a) (.int q b)) w K = K (.int q (bitOp .xor q a b)) w) ∧
  (∀ {t : TypeId} {x y : Operand} {q : IntKind} {a b : Int}  {w : World} {K : Value → World → Prop}, (std Try.prog).step (sBin .lss t x y (.int q a) (.int q b)) w K = K (.bool (decide (a < b))) w) ∧
  (∀ {t : TypeId} {x y : Operand} {q : IntKind} {a b : Int}  {w : World} {K : Value → World → Prop}, (std Try.prog).step (sBin .leq t x y (.int q a) (.int q b)) w K = K (.bool (decide (a ≤ b))) w) ∧
  (∀ {t : TypeId} {x y : Operand} {q : IntKind} {a b : Int}  {w : World} {K : Value → World → Prop}, (std Try.prog).step (sBin .gtr t x y (.int q a) (.int q b)) w K = K (.bool (decide (b < a))) w) ∧
  (∀ {t : TypeId} {x y : Operand} {q : IntKind} {a b : Int}  {w : World} {K : Value → World → Prop}, (std Try.prog).step (sBin .geq t x y (.int q a) (.int q b)) w K = K (.bool (decide (b ≤ a))) w) ∧
  (∀ {t : TypeId} {x y : Operand} {q : IntKind} {a b : Int}  {w : World} {K : Value → World → Prop}, (std Try.prog).step (sBin .eql t x y (.int q a) (.int q b)) w K = K (.bool (decide (a = b))) w) ∧
  (∀ {t : TypeId} {x y : Operand} {q : IntKind} {a b : Int}  {w : World} {K : Value → World → Prop}, (std Try.prog).step (sBin .neq t x y (.int q a) (.int q b)) w K = K (.bool (decide (a ≠ b))) w) ∧
  (∀ {t : TypeId} {x y : Operand} {q : IntKind} {a b : Int} (h : b ≠ 0) {w : World} {K : Value → World → Prop}, (std Try.prog).step (sBin .quo t x y (.int q a) (.int q b)) w K = K (.int q (q.wrap (a.tdiv b))) w) ∧
  (∀ {t : TypeId} {x y : Operand} {q : IntKind} {a b : Int} (h : b ≠ 0) {w : World} {K : Value → World → Prop}, (std Try.prog).step (sBin .rem t x y (.int q a) (.int q b)) w K = K (.int q (a.tmod b)) w) ∧
  (∀ {t : TypeId} {x y : Operand} {q q' : IntKind} {a b : Int} (h : ¬ b < 0) {w : World} {K : Value → World → Prop}, (std Try.prog).step (sBin .shl t x y (.int q a) (.int q' b)) w K = K (.int q (q.wrap (a * 2 ^ (min b.toNat q.bits)))) w) ∧
  (∀ {t : TypeId} {x y : Operand} {q q' : IntKind} {a b : Int} (h : ¬ b < 0) {w : World} {K : Value → World → Prop}, (std Try.prog).step (sBin .shr t x y (.int q a) (.int q' b)) w K = K (.int q (a.fdiv (2 ^ (min b.toNat q.bits)))) w) ∧
  (∀ {t : TypeId} {x y : Operand} {a b : ByteArray}  {w : World} {K : Value → World → Prop}, (std Try.prog).step (sBin .eql t x y (.string a) (.string b)) w K = K (.bool (decide (a = b))) w) ∧
  (∀ {t : TypeId} {x y : Operand} {a b : ByteArray}  {w : World} {K : Value → World → Prop}, (std Try.prog).step (sBin .neq t x y (.string a) (.string b)) w K = K (.bool (!decide (a = b))) w) ∧
  (∀ {t : TypeId} {x y : Operand} {a b : ByteArray} (h : a.size + b.size ≤ 9223372036854775807) {w : World} {K : Value → World → Prop}, (std Try.prog).step (sBin .add t x y (.string a) (.string b)) w K = K (.string (a ++ b)) w) ∧
  (∀ {b : Bool}  {w : World} {K : Value → World → Prop}, (std Try.prog).step (sUn .not (.bool b)) w K = K (.bool (!b)) w) ∧
  (∀ {q : IntKind} {a : Int}  {w : World} {K : Value → World → Prop}, (std Try.prog).step (sUn .neg (.int q a)) w K = K (.int q (q.wrap (0 - a))) w) ∧
  (∀ {q : IntKind} {a : Int}  {w : World} {K : Value → World → Prop}, (std Try.prog).step (sUn .xor (.int q a)) w K = K (.int q (bitOp .xor q (if q.signed then -1 else q.max) a)) w) ∧
  (∀ {a : Addr}  {w : World} {K : Value → World → Prop}, (std Try.prog).step (sNil (.pointer (some a))) w K = K (.pointer (some a)) w) ∧
  (∀ {a b : Value}  {w : World} {K : Value → World → Prop}, (std Try.prog).step (sExtract (.tuple #[a, b]) 0) w K = K (a) w) ∧
  (∀ {a b : Value}  {w : World} {K : Value → World → Prop}, (std Try.prog).step (sExtract (.tuple #[a, b]) 1) w K = K (b) w) ∧
  (∀ {a b c : Value}  {w : World} {K : Value → World → Prop}, (std Try.prog).step (sExtract (.tuple #[a, b, c]) 0) w K = K (a) w) ∧
  (∀ {a b c : Value}  {w : World} {K : Value → World → Prop}, (std Try.prog).step (sExtract (.tuple #[a, b, c]) 1) w K = K (b) w) ∧
  (∀ {a b c : Value}  {w : World} {K : Value → World → Prop}, (std Try.prog).step (sExtract (.tuple #[a, b, c]) 2) w K = K (c) w) ∧
  (∀ {ats : Array TypeId} {ty : TypeId} {c : List Bool} {q : IntKind} {a b : Int}  {w : World} {K : Value → World → Prop}, (std Try.prog).step (sBuiltin .min ats ty c [.int q a, .int q b]) w K = K (.int q (if b < a then b else a)) w) ∧
  (∀ {ats : Array TypeId} {ty : TypeId} {c : List Bool} {q : IntKind} {a b : Int}  {w : World} {K : Value → World → Prop}, (std Try.prog).step (sBuiltin .max ats ty c [.int q a, .int q b]) w K = K (.int q (if a < b then b else a)) w) ∧
  (∀ {x y : Operand} {a b : Bool}  {w : World} {K : Value → World → Prop}, (std Try.prog).step (sBin .eql 4 x y (.bool a) (.bool b)) w K = K (.bool (a == b)) w) ∧
  (∀ {x y : Operand} {a b : Bool}  {w : World} {K : Value → World → Prop}, (std Try.prog).step (sBin .neq 4 x y (.bool a) (.bool b)) w K = K (.bool (!(a == b))) w) ∧
  (∀ {ty : TypeId} {c : List Bool} {A : Option Addr} {n m : Nat}  {w : World} {K : Value → World → Prop}, (std Try.prog).step (sBuiltin .len #[22] ty c [.slice A n m]) w K = K (.int .i64 n) w) ∧
  (∀ {ty : TypeId} {c : List Bool} {A : Option Addr} {n m : Nat}  {w : World} {K : Value → World → Prop}, (std Try.prog).step (sBuiltin .len #[23] ty c [.slice A n m]) w K = K (.int .i64 n) w) ∧
  (∀ {ty : TypeId} {c : List Bool} {A : Option Addr} {n m : Nat}  {w : World} {K : Value → World → Prop}, (std Try.prog).step (sBuiltin .len #[33] ty c [.slice A n m]) w K = K (.int .i64 n) w) ∧
  (∀ {ty : TypeId} {c : List Bool} {A : Option Addr} {n m : Nat}  {w : World} {K : Value → World → Prop}, (std Try.prog).step (sBuiltin .len #[36] ty c [.slice A n m]) w K = K (.int .i64 n) w) ∧
  (∀ {ty : TypeId} {c : List Bool} {A : Option Addr} {n m : Nat}  {w : World} {K : Value → World → Prop}, (std Try.prog).step (sBuiltin .len #[52] ty c [.slice A n m]) w K = K (.int .i64 n) w) ∧
  (∀ {ty : TypeId} {c : List Bool} {A : Option Addr} {n m : Nat}  {w : World} {K : Value → World → Prop}, (std Try.prog).step (sBuiltin .len #[58] ty c [.slice A n m]) w K = K (.int .i64 n) w) ∧
  (∀ {a : Addr}  {w : World} {K : Value → World → Prop}, (std Try.prog).step (sFieldAddr 32 (.pointer (some a)) 0) w K = K (.pointer (some (a))) w) ∧
  (∀ {a : Addr}  {w : World} {K : Value → World → Prop}, (std Try.prog).step (sFieldAddr 32 (.pointer (some a)) 1) w K = K (.pointer (some (a.add 1))) w) ∧
  (∀ {a : Addr}  {w : World} {K : Value → World → Prop}, (std Try.prog).step (sFieldAddr 32 (.pointer (some a)) 2) w K = K (.pointer (some (a.add 2))) w) ∧
  (∀ {a : Addr}  {w : World} {K : Value → World → Prop}, (std Try.prog).step (sFieldAddr 46 (.pointer (some a)) 0) w K = K (.pointer (some (a))) w) ∧
  (∀ {a : Addr}  {w : World} {K : Value → World → Prop}, (std Try.prog).step (sFieldAddr 46 (.pointer (some a)) 1) w K = K (.pointer (some (a.add 1))) w) ∧
  (∀ {a : Addr}  {w : World} {K : Value → World → Prop}, (std Try.prog).step (sFieldAddr 46 (.pointer (some a)) 2) w K = K (.pointer (some (a.add 2))) w) ∧
  (∀ {a : Addr}  {w : World} {K : Value → World → Prop}, (std Try.prog).step (sFieldAddr 46 (.pointer (some a)) 3) w K = K (.pointer (some (a.add 3))) w) ∧
  (∀ {a : Addr}  {w : World} {K : Value → World → Prop}, (std Try.prog).step (sFieldAddr 60 (.pointer (some a)) 0) w K = K (.pointer (some (a))) w) ∧
  (∀ {a : Addr}  {w : World} {K : Value → World → Prop}, (std Try.prog).step (sFieldAddr 63 (.pointer (some a)) 0) w K = K (.pointer (some (a))) w) ∧
  (∀ {a : Addr}  {w : World} {K : Value → World → Prop}, (std Try.prog).step (sFieldAddr 63 (.pointer (some a)) 1) w K = K (.pointer (some (a.add 1))) w) ∧
  (∀ {a : Addr}  {w : World} {K : Value → World → Prop}, (std Try.prog).step (sFieldAddr 63 (.pointer (some a)) 2) w K = K (.pointer (some (a.add 2))) w) ∧
  (∀ {a : Addr}  {w : World} {K : Value → World → Prop}, (std Try.prog).step (sFieldAddr 63 (.pointer (some a)) 3) w K = K (.pointer (some (a.add 3))) w) ∧
  (∀ {a : Addr}  {w : World} {K : Value → World → Prop}, (std Try.prog).step (sFieldAddr 63 (.pointer (some a)) 4) w K = K (.pointer (some (a.add 4))) w) ∧
  (∀ {a : Addr}  {w : World} {K : Value → World → Prop}, (std Try.prog).step (sFieldAddr 68 (.pointer (some a)) 0) w K = K (.pointer (some (a))) w) ∧
  (∀ {a : Addr}  {w : World} {K : Value → World → Prop}, (std Try.prog).step (sFieldAddr 68 (.pointer (some a)) 1) w K = K (.pointer (some (a.add 1))) w) ∧
  (∀ {a : Addr}  {w : World} {K : Value → World → Prop}, (std Try.prog).step (sFieldAddr 68 (.pointer (some a)) 2) w K = K (.pointer (some (a.add 2))) w) ∧
  (∀ {a : Addr}  {w : World} {K : Value → World → Prop}, (std Try.prog).step (sFieldAddr 68 (.pointer (some a)) 3) w K = K (.pointer (some (a.add 3))) w) ∧
  (∀ {a : Addr}  {w : World} {K : Value → World → Prop}, (std Try.prog).step (sFieldAddr 68 (.pointer (some a)) 4) w K = K (.pointer (some (a.add 4))) w) ∧
  (∀ {a : Addr} {n c i : Nat} (h : i < n) {w : World} {K : Value → World → Prop}, (std Try.prog).step (sIndexAddr 22 (.slice (some a) n c) (.int .i64 (i : Nat))) w K = K (.pointer (some (a.add (i)))) w) ∧
  (∀ {a : Addr} {n c i : Nat} (h : i < n) {w : World} {K : Value → World → Prop}, (std Try.prog).step (sIndexAddr 23 (.slice (some a) n c) (.int .i64 (i : Nat))) w K = K (.pointer (some (a.add (i * 3)))) w) ∧
  (∀ {a : Addr} {n c i : Nat} (h : i < n) {w : World} {K : Value → World → Prop}, (std Try.prog).step (sIndexAddr 33 (.slice (some a) n c) (.int .i64 (i : Nat))) w K = K (.pointer (some (a.add (i * 5)))) w) ∧
  (∀ {a : Addr} {n c i : Nat} (h : i < n) {w : World} {K : Value → World → Prop}, (std Try.prog).step (sIndexAddr 36 (.slice (some a) n c) (.int .i64 (i : Nat))) w K = K (.pointer (some (a.add (i)))) w) ∧
  (∀ {a : Addr} {n c i : Nat} (h : i < n) {w : World} {K : Value → World → Prop}, (std Try.prog).step (sIndexAddr 52 (.slice (some a) n c) (.int .i64 (i : Nat))) w K = K (.pointer (some (a.add (i * 5)))) w) ∧
  (∀ {a : Addr} {n c i : Nat} (h : i < n) {w : World} {K : Value → World → Prop}, (std Try.prog).step (sIndexAddr 58 (.slice (some a) n c) (.int .i64 (i : Nat))) w K = K (.pointer (some (a.add (i)))) w) := ⟨@px_add, @px_sub, @px_mul, @px_and, @px_or, @px_xor, @px_lss, @px_leq, @px_gtr, @px_geq, @px_eql, @px_neq, @px_quo, @px_rem, @px_shl, @px_shr, @px_seql, @px_sneq, @px_sadd, @px_not, @px_neg, @px_inv, @px_nilc, @px_ext20, @px_ext21, @px_ext30, @px_ext31, @px_ext32, @px_min, @px_max, @px_beql4, @px_bneq4, @px_len22, @px_len23, @px_len33, @px_len36, @px_len52, @px_len58, @px_fa32_0, @px_fa32_1, @px_fa32_2, @px_fa46_0, @px_fa46_1, @px_fa46_2, @px_fa46_3, @px_fa60_0, @px_fa63_0, @px_fa63_1, @px_fa63_2, @px_fa63_3, @px_fa63_4, @px_fa68_0, @px_fa68_1, @px_fa68_2, @px_fa68_3, @px_fa68_4, @px_ix22, @px_ix23, @px_ix33, @px_ix36, @px_ix52, @px_ix58⟩
theorem SX : (∀ {t : TypeId} {x y : Operand} {q : IntKind} {a b : Int}  {S : World → Prop} {k : Value → Prop} (hne : ∃ w, S w), (std Try.prog).stepS S (sBin .add t x y (.int q a) (.int q b)) k = k (.int q (q.wrap (a + b)))) ∧
  (∀ {t : TypeId} {x y : Operand} {q : IntKind} {a b : Int}  {S : World → Prop} {k : Value → Prop} (hne : ∃ w, S w), (std Try.prog).stepS S (sBin .sub t x y (.int q a) (.int q b)) k = k (.int q (q.wrap (a - b)))) ∧
  (∀ {t : TypeId} {x y : Operand} {q : IntKind} {a b : Int}  {S : World → Prop} {k : Value → Prop} (hne : ∃ w, S w), (std Try.prog).stepS S (sBin .mul t x y (.int q a) (.int q b)) k = k (.int q (q.wrap (a * b)))) ∧
  (∀ {t : TypeId} {x y : Operand} {q : IntKind} {a b : Int}  {S : World → Prop} {k : Value → Prop} (hne : ∃ w, S w), (std Try.prog).stepS S (sBin .and t x y (.int q a) (.int q b)) k = k (.int q (bitOp .and q a b))) ∧
  (∀ {t : TypeId} {x y : Operand} {q : IntKind} {a b : Int}  {S : World → Prop} {k : Value → Prop} (hne : ∃ w, S w), (std Try.prog).stepS S (sBin .or t x y (.int q a) (.int q b)) k = k (.int q (bitOp .or q a b))) ∧
  (∀ {t : TypeId} {x y : Operand} {q : IntKind} {a b : Int}  {S : World → Prop} {k : Value → Prop} (hne : ∃ w, S w), (std Try.prog).stepS S (sBin .xor t x y (.int q a) (.int q b)) k = k (.int q (bitOp .xor q a b))) ∧
  (∀ {t : TypeId} {x y : Operand} {q : IntKind} {a b : Int}  {S : World → Prop} {k : Value → Prop} (hne : ∃ w, S w), (std Try.prog).stepS S (sBin .lss t x y (.int q a) (.int q b)) k = k (.bool (decide (a < b)))) ∧
  (∀ {t : TypeId} {x y : Operand} {q : IntKind} {a b : Int}  {S : World → Prop} {k : Value → Prop} (hne : ∃ w, S w), (std Try.prog).stepS S (sBin .leq t x y (.int q a) (.int q b)) k = k (.bool (decide (a ≤ b)))) ∧
  (∀ {t : TypeId} {x y : Operand} {q : IntKind} {a b : Int}  {S : World → Prop} {k : Value → Prop} (hne : ∃ w, S w), (std Try.prog).stepS S (sBin .gtr t x y (.int q a) (.int q b)) k = k (.bool (decide (b < a)))) ∧
  (∀ {t : TypeId} {x y : Operand} {q : IntKind} {a b : Int}  {S : World → Prop} {k : Value → Prop} (hne : ∃ w, S w), (std Try.prog).stepS S (sBin .geq t x y (.int q a) (.int q b)) k = k (.bool (decide (b ≤ a)))) ∧
  (∀ {t : TypeId} {x y : Operand} {q : IntKind} {a b : Int}  {S : World → Prop} {k : Value → Prop} (hne : ∃ w, S w), (std Try.prog).stepS S (sBin .eql t x y (.int q a) (.int q b)) k = k (.bool (decide (a = b)))) ∧
  (∀ {t : TypeId} {x y : Operand} {q : IntKind} {a b : Int}  {S : World → Prop} {k : Value → Prop} (hne : ∃ w, S w), (std Try.prog).stepS S (sBin .neq t x y (.int q a) (.int q b)) k = k (.bool (decide (a ≠ b)))) ∧
  (∀ {t : TypeId} {x y : Operand} {q : IntKind} {a b : Int} (h : b ≠ 0) {S : World → Prop} {k : Value → Prop} (hne : ∃ w, S w), (std Try.prog).stepS S (sBin .quo t x y (.int q a) (.int q b)) k = k (.int q (q.wrap (a.tdiv b)))) ∧
  (∀ {t : TypeId} {x y : Operand} {q : IntKind} {a b : Int} (h : b ≠ 0) {S : World → Prop} {k : Value → Prop} (hne : ∃ w, S w), (std Try.prog).stepS S (sBin .rem t x y (.int q a) (.int q b)) k = k (.int q (a.tmod b))) ∧
  (∀ {t : TypeId} {x y : Operand} {q q' : IntKind} {a b : Int} (h : ¬ b < 0) {S : World → Prop} {k : Value → Prop} (hne : ∃ w, S w), (std Try.prog).stepS S (sBin .shl t x y (.int q a) (.int q' b)) k = k (.int q (q.wrap (a * 2 ^ (min b.toNat q.bits))))) ∧
  (∀ {t : TypeId} {x y : Operand} {q q' : IntKind} {a b : Int} (h : ¬ b < 0) {S : World → Prop} {k : Value → Prop} (hne : ∃ w, S w), (std Try.prog).stepS S (sBin .shr t x y (.int q a) (.int q' b)) k = k (.int q (a.fdiv (2 ^ (min b.toNat q.bits))))) ∧
  (∀ {t : TypeId} {x y : Operand} {a b : ByteArray}  {S : World → Prop} {k : Value → Prop} (hne : ∃ w, S w), (std Try.prog).stepS S (sBin .eql t x y (.string a) (.string b)) k = k (.bool (decide (a = b)))) ∧
  (∀ {t : TypeId} {x y : Operand} {a b : ByteArray}  {S : World → Prop} {k : Value → Prop} (hne : ∃ w, S w), (std Try.prog).stepS S (sBin .neq t x y (.string a) (.string b)) k = k (.bool (!decide (a = b)))) ∧
  (∀ {t : TypeId} {x y : Operand} {a b : ByteArray} (h : a.size + b.size ≤ 9223372036854775807) {S : World → Prop} {k : Value → Prop} (hne : ∃ w, S w), (std Try.prog).stepS S (sBin .add t x y (.string a) (.string b)) k = k (.string (a ++ b))) ∧
  (∀ {b : Bool}  {S : World → Prop} {k : Value → Prop} (hne : ∃ w, S w), (std Try.prog).stepS S (sUn .not (.bool b)) k = k (.bool (!b))) ∧
  (∀ {q : IntKind} {a : Int}  {S : World → Prop} {k : Value → Prop} (hne : ∃ w, S w), (std Try.prog).stepS S (sUn .neg (.int q a)) k = k (.int q (q.wrap (0 - a)))) ∧
  (∀ {q : IntKind} {a : Int}  {S : World → Prop} {k : Value → Prop} (hne : ∃ w, S w), (std Try.prog).stepS S (sUn .xor (.int q a)) k = k (.int q (bitOp .xor q (if q.signed then -1 else q.max) a))) ∧
  (∀ {a : Addr}  {S : World → Prop} {k : Value → Prop} (hne : ∃ w, S w), (std Try.prog).stepS S (sNil (.pointer (some a))) k = k (.pointer (some a))) ∧
  (∀ {a b : Value}  {S : World → Prop} {k : Value → Prop} (hne : ∃ w, S w), (std Try.prog).stepS S (sExtract (.tuple #[a, b]) 0) k = k (a)) ∧
  (∀ {a b : Value}  {S : World → Prop} {k : Value → Prop} (hne : ∃ w, S w), (std Try.prog).stepS S (sExtract (.tuple #[a, b]) 1) k = k (b)) ∧
  (∀ {a b c : Value}  {S : World → Prop} {k : Value → Prop} (hne : ∃ w, S w), (std Try.prog).stepS S (sExtract (.tuple #[a, b, c]) 0) k = k (a)) ∧
  (∀ {a b c : Value}  {S : World → Prop} {k : Value → Prop} (hne : ∃ w, S w), (std Try.prog).stepS S (sExtract (.tuple #[a, b, c]) 1) k = k (b)) ∧
  (∀ {a b c : Value}  {S : World → Prop} {k : Value → Prop} (hne : ∃ w, S w), (std Try.prog).stepS S (sExtract (.tuple #[a, b, c]) 2) k = k (c)) ∧
  (∀ {ats : Array TypeId} {ty : TypeId} {c : List Bool} {q : IntKind} {a b : Int}  {S : World → Prop} {k : Value → Prop} (hne : ∃ w, S w), (std Try.prog).stepS S (sBuiltin .min ats ty c [.int q a, .int q b]) k = k (.int q (if b < a then b else a))) ∧
  (∀ {ats : Array TypeId} {ty : TypeId} {c : List Bool} {q : IntKind} {a b : Int}  {S : World → Prop} {k : Value → Prop} (hne : ∃ w, S w), (std Try.prog).stepS S (sBuiltin .max ats ty c [.int q a, .int q b]) k = k (.int q (if a < b then b else a))) ∧
  (∀ {x y : Operand} {a b : Bool}  {S : World → Prop} {k : Value → Prop} (hne : ∃ w, S w), (std Try.prog).stepS S (sBin .eql 4 x y (.bool a) (.bool b)) k = k (.bool (a == b))) ∧
  (∀ {x y : Operand} {a b : Bool}  {S : World → Prop} {k : Value → Prop} (hne : ∃ w, S w), (std Try.prog).stepS S (sBin .neq 4 x y (.bool a) (.bool b)) k = k (.bool (!(a == b)))) ∧
  (∀ {ty : TypeId} {c : List Bool} {A : Option Addr} {n m : Nat}  {S : World → Prop} {k : Value → Prop} (hne : ∃ w, S w), (std Try.prog).stepS S (sBuiltin .len #[22] ty c [.slice A n m]) k = k (.int .i64 n)) ∧
  (∀ {ty : TypeId} {c : List Bool} {A : Option Addr} {n m : Nat}  {S : World → Prop} {k : Value → Prop} (hne : ∃ w, S w), (std Try.prog).stepS S (sBuiltin .len #[23] ty c [.slice A n m]) k = k (.int .i64 n)) ∧
  (∀ {ty : TypeId} {c : List Bool} {A : Option Addr} {n m : Nat}  {S : World → Prop} {k : Value → Prop} (hne : ∃ w, S w), (std Try.prog).stepS S (sBuiltin .len #[33] ty c [.slice A n m]) k = k (.int .i64 n)) ∧
  (∀ {ty : TypeId} {c : List Bool} {A : Option Addr} {n m : Nat}  {S : World → Prop} {k : Value → Prop} (hne : ∃ w, S w), (std Try.prog).stepS S (sBuiltin .len #[36] ty c [.slice A n m]) k = k (.int .i64 n)) ∧
  (∀ {ty : TypeId} {c : List Bool} {A : Option Addr} {n m : Nat}  {S : World → Prop} {k : Value → Prop} (hne : ∃ w, S w), (std Try.prog).stepS S (sBuiltin .len #[52] ty c [.slice A n m]) k = k (.int .i64 n)) ∧
  (∀ {ty : TypeId} {c : List Bool} {A : Option Addr} {n m : Nat}  {S : World → Prop} {k : Value → Prop} (hne : ∃ w, S w), (std Try.prog).stepS S (sBuiltin .len #[58] ty c [.slice A n m]) k = k (.int .i64 n)) ∧
  (∀ {a : Addr}  {S : World → Prop} {k : Value → Prop} (hne : ∃ w, S w), (std Try.prog).stepS S (sFieldAddr 32 (.pointer (some a)) 0) k = k (.pointer (some (a)))) ∧
  (∀ {a : Addr}  {S : World → Prop} {k : Value → Prop} (hne : ∃ w, S w), (std Try.prog).stepS S (sFieldAddr 32 (.pointer (some a)) 1) k = k (.pointer (some (a.add 1)))) ∧
  (∀ {a : Addr}  {S : World → Prop} {k : Value → Prop} (hne : ∃ w, S w), (std Try.prog).stepS S (sFieldAddr 32 (.pointer (some a)) 2) k = k (.pointer (some (a.add 2)))) ∧
  (∀ {a : Addr}  {S : World → Prop} {k : Value → Prop} (hne : ∃ w, S w), (std Try.prog).stepS S (sFieldAddr 46 (.pointer (some a)) 0) k = k (.pointer (some (a)))) ∧
  (∀ {a : Addr}  {S : World → Prop} {k : Value → Prop} (hne : ∃ w, S w), (std Try.prog).stepS S (sFieldAddr 46 (.pointer (some a)) 1) k = k (.pointer (some (a.add 1)))) ∧
  (∀ {a : Addr}  {S : World → Prop} {k : Value → Prop} (hne : ∃ w, S w), (std Try.prog).stepS S (sFieldAddr 46 (.pointer (some a)) 2) k = k (.pointer (some (a.add 2)))) ∧
  (∀ {a : Addr}  {S : World → Prop} {k : Value → Prop} (hne : ∃ w, S w), (std Try.prog).stepS S (sFieldAddr 46 (.pointer (some a)) 3) k = k (.pointer (some (a.add 3)))) ∧
  (∀ {a : Addr}  {S : World → Prop} {k : Value → Prop} (hne : ∃ w, S w), (std Try.prog).stepS S (sFieldAddr 60 (.pointer (some a)) 0) k = k (.pointer (some (a)))) ∧
  (∀ {a : Addr}  {S : World → Prop} {k : Value → Prop} (hne : ∃ w, S w), (std Try.prog).stepS S (sFieldAddr 63 (.pointer (some a)) 0) k = k (.pointer (some (a)))) ∧
  (∀ {a : Addr}  {S : World → Prop} {k : Value → Prop} (hne : ∃ w, S w), (std Try.prog).stepS S (sFieldAddr 63 (.pointer (some a)) 1) k = k (.pointer (some (a.add 1)))) ∧
  (∀ {a : Addr}  {S : World → Prop} {k : Value → Prop} (hne : ∃ w, S w), (std Try.prog).stepS S (sFieldAddr 63 (.pointer (some a)) 2) k = k (.pointer (some (a.add 2)))) ∧
  (∀ {a : Addr}  {S : World → Prop} {k : Value → Prop} (hne : ∃ w, S w), (std Try.prog).stepS S (sFieldAddr 63 (.pointer (some a)) 3) k = k (.pointer (some (a.add 3)))) ∧
  (∀ {a : Addr}  {S : World → Prop} {k : Value → Prop} (hne : ∃ w, S w), (std Try.prog).stepS S (sFieldAddr 63 (.pointer (some a)) 4) k = k (.pointer (some (a.add 4)))) ∧
  (∀ {a : Addr}  {S : World → Prop} {k : Value → Prop} (hne : ∃ w, S w), (std Try.prog).stepS S (sFieldAddr 68 (.pointer (some a)) 0) k = k (.pointer (some (a)))) ∧
  (∀ {a : Addr}  {S : World → Prop} {k : Value → Prop} (hne : ∃ w, S w), (std Try.prog).stepS S (sFieldAddr 68 (.pointer (some a)) 1) k = k (.pointer (some (a.add 1)))) ∧
  (∀ {a : Addr}  {S : World → Prop} {k : Value → Prop} (hne : ∃ w, S w), (std Try.prog).stepS S (sFieldAddr 68 (.pointer (some a)) 2) k = k (.pointer (some (a.add 2)))) ∧
  (∀ {a : Addr}  {S : World → Prop} {k : Value → Prop} (hne : ∃ w, S w), (std Try.prog).stepS S (sFieldAddr 68 (.pointer (some a)) 3) k = k (.pointer (some (a.add 3)))) ∧
  (∀ {a : Addr}  {S : World → Prop} {k : Value → Prop} (hne : ∃ w, S w), (std Try.prog).stepS S (sFieldAddr 68 (.pointer (some a)) 4) k = k (.pointer (some (a.add 4)))) ∧
  (∀ {a : Addr} {n c i : Nat} (h : i < n) {S : World → Prop} {k : Value → Prop} (hne : ∃ w, S w), (std Try.prog).stepS S (sIndexAddr 22 (.slice (some a) n c) (.int .i64 (i : Nat))) k = k (.pointer (some (a.add (i))))) ∧
  (∀ {a : Addr} {n c i : Nat} (h : i < n) {S : World → Prop} {k : Value → Prop} (hne : ∃ w, S w), (std Try.prog).stepS S (sIndexAddr 23 (.slice (some a) n c) (.int .i64 (i : Nat))) k = k (.pointer (some (a.add (i * 3))))) ∧
  (∀ {a : Addr} {n c i : Nat} (h : i < n) {S : World → Prop} {k : Value → Prop} (hne : ∃ w, S w), (std Try.prog).stepS S (sIndexAddr 33 (.slice (some a) n c) (.int .i64 (i : Nat))) k = k (.pointer (some (a.add (i * 5))))) ∧
  (∀ {a : Addr} {n c i : Nat} (h : i < n) {S : World → Prop} {k : Value → Prop} (hne : ∃ w, S w), (std Try.prog).stepS S (sIndexAddr 36 (.slice (some a) n c) (.int .i64 (i : Nat))) k = k (.pointer (some (a.add (i))))) ∧
  (∀ {a : Addr} {n c i : Nat} (h : i < n) {S : World → Prop} {k : Value → Prop} (hne : ∃ w, S w), (std Try.prog).stepS S (sIndexAddr 52 (.slice (some a) n c) (.int .i64 (i : Nat))) k = k (.pointer (some (a.add (i * 5))))) ∧
  (∀ {a : Addr} {n c i : Nat} (h : i < n) {S : World → Prop} {k : Value → Prop} (hne : ∃ w, S w), (std Try.prog).stepS S (sIndexAddr 58 (.slice (some a) n c) (.int .i64 (i : Nat))) k = k (.pointer (some (a.add (i))))) := ⟨@sx_add, @sx_sub, @sx_mul, @sx_and, @sx_or, @sx_xor, @sx_lss, @sx_leq, @sx_gtr, @sx_geq, @sx_eql, @sx_neq, @sx_quo, @sx_rem, @sx_shl, @sx_shr, @sx_seql, @sx_sneq, @sx_sadd, @sx_not, @sx_neg, @sx_inv, @sx_nilc, @sx_ext20, @sx_ext21, @sx_ext30, @sx_ext31, @sx_ext32, @sx_min, @sx_max, @sx_beql4, @sx_bneq4, @sx_len22, @sx_len23, @sx_len33, @sx_len36, @sx_len52, @sx_len58, @sx_fa32_0, @sx_fa32_1, @sx_fa32_2, @sx_fa46_0, @sx_fa46_1, @sx_fa46_2, @sx_fa46_3, @sx_fa60_0, @sx_fa63_0, @sx_fa63_1, @sx_fa63_2, @sx_fa63_3, @sx_fa63_4, @sx_fa68_0, @sx_fa68_1, @sx_fa68_2, @sx_fa68_3, @sx_fa68_4, @sx_ix22, @sx_ix23, @sx_ix33, @sx_ix36, @sx_ix52, @sx_ix58⟩
theorem SLX : (∀ {a : Addr} {v : Value} {S : World → Prop} {k : Value → Prop} (hne : ∃ w, S w) (h : ∀ w, S w → w.cell? a = some v), (std Try.prog).stepS S (sLoad 3 (.pointer (some a))) k = k v) ∧
  (∀ {a : Addr} {v : Value} {S : World → Prop} {k : Value → Prop} (hne : ∃ w, S w) (h : ∀ w, S w → w.cell? a = some v), (std Try.prog).stepS S (sLoad 36 (.pointer (some a))) k = k v) ∧
  (∀ {a : Addr} {v : Value} {S : World → Prop} {k : Value → Prop} (hne : ∃ w, S w) (h : ∀ w, S w → w.cell? a = some v), (std Try.prog).stepS S (sLoad 4 (.pointer (some a))) k = k v) ∧
  (∀ {a : Addr} {v : Value} {S : World → Prop} {k : Value → Prop} (hne : ∃ w, S w) (h : ∀ w, S w → w.cell? a = some v), (std Try.prog).stepS S (sLoad 44 (.pointer (some a))) k = k v) ∧
  (∀ {a : Addr} {v : Value} {S : World → Prop} {k : Value → Prop} (hne : ∃ w, S w) (h : ∀ w, S w → w.cell? a = some v), (std Try.prog).stepS S (sLoad 58 (.pointer (some a))) k = k v) ∧
  (∀ {a : Addr} {v : Value} {S : World → Prop} {k : Value → Prop} (hne : ∃ w, S w) (h : ∀ w, S w → w.cell? a = some v), (std Try.prog).stepS S (sLoad 61 (.pointer (some a))) k = k v) := ⟨@sld3, @sld36, @sld4, @sld44, @sld58, @sld61⟩
theorem LX : (∀ {a : Addr} {v : Value} {w : World} {K : Value → World → Prop} (h : w.cell? a = some v), (std Try.prog).step (sLoad 3 (.pointer (some a))) w K = K v w) ∧
  (∀ {a : Addr} {v : Value} {w : World} {K : Value → World → Prop} (h : w.cell? a = some v), (std Try.prog).step (sLoad 36 (.pointer (some a))) w K = K v w) ∧
  (∀ {a : Addr} {v : Value} {w : World} {K : Value → World → Prop} (h : w.cell? a = some v), (std Try.prog).step (sLoad 4 (.pointer (some a))) w K = K v w) ∧
  (∀ {a : Addr} {v : Value} {w : World} {K : Value → World → Prop} (h : w.cell? a = some v), (std Try.prog).step (sLoad 44 (.pointer (some a))) w K = K v w) ∧
  (∀ {a : Addr} {v : Value} {w : World} {K : Value → World → Prop} (h : w.cell? a = some v), (std Try.prog).step (sLoad 58 (.pointer (some a))) w K = K v w) ∧
  (∀ {a : Addr} {v : Value} {w : World} {K : Value → World → Prop} (h : w.cell? a = some v), (std Try.prog).step (sLoad 61 (.pointer (some a))) w K = K v w) := ⟨@ld3, @ld36, @ld4, @ld44, @ld58, @ld61⟩
theorem BX : (∀ (p : Prop) [Decidable p] (A B : Prop), (std Try.prog).bool (.bool (decide p)) A B = ((p → A) ∧ (¬ p → B))) ∧ (∀ (A B : Prop), (std Try.prog).bool (.bool true) A B = A) ∧ (∀ (A B : Prop), (std Try.prog).bool (.bool false) A B = B) ∧ (∀ (b : Bool) (A B : Prop), (std Try.prog).bool (.bool (!b)) A B = (std Try.prog).bool (.bool b) B A) := ⟨fun p => bool_dec p, bool_true, bool_false, bool_not⟩
end Go.Proofs.Ytilfkccahlkcaaa
