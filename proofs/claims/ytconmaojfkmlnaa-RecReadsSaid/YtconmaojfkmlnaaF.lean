/- Closed facts about the types of the program, and the rules for the steps at these types. Written by a program of this work. -/
import Derived.Test.YtconmaojfkmlnaaRf
import Derived.Test.YtconmaojfkmlnaaProg
import Derived.KernelRfl
namespace Go.Proofs.Ytconmaojfkmlnaa
open Go Xf
set_option linter.unusedVariables false
set_option maxRecDepth 100000

-- 2: int64
theorem u2 : Try.prog.underlying 2 = some (.int .i64) := by kernel_rfl
theorem ag2 : (Try.prog.underlying 2).map isAggD = some false := by kernel_rfl
theorem sz2 : (Try.prog.info? 2).map (·.size) = some 1 := by kernel_rfl
theorem ze2 : (Try.prog.info? 2).bind (·.zero) = some (.int .i64 0) := by kernel_rfl
theorem inf2 : ∃ i, Try.prog.info? 2 = some i ∧ i.zero = some (.int .i64 0) ∧ i.size = 1 ∧ i.bytes = 8 := info_parts (by kernel_rfl : (Try.prog.info? 2).map (fun i => (i.zero, i.size, i.bytes)) = some (some (.int .i64 0), 1, 8))
-- 3: int
theorem u3 : Try.prog.underlying 3 = some (.int .i64) := by kernel_rfl
theorem ag3 : (Try.prog.underlying 3).map isAggD = some false := by kernel_rfl
theorem sz3 : (Try.prog.info? 3).map (·.size) = some 1 := by kernel_rfl
theorem ze3 : (Try.prog.info? 3).bind (·.zero) = some (.int .i64 0) := by kernel_rfl
theorem inf3 : ∃ i, Try.prog.info? 3 = some i ∧ i.zero = some (.int .i64 0) ∧ i.size = 1 ∧ i.bytes = 8 := info_parts (by kernel_rfl : (Try.prog.info? 3).map (fun i => (i.zero, i.size, i.bytes)) = some (some (.int .i64 0), 1, 8))
-- 4: bool
theorem u4 : Try.prog.underlying 4 = some (.bool) := by kernel_rfl
theorem ag4 : (Try.prog.underlying 4).map isAggD = some false := by kernel_rfl
theorem sz4 : (Try.prog.info? 4).map (·.size) = some 1 := by kernel_rfl
theorem ze4 : (Try.prog.info? 4).bind (·.zero) = some (.bool false) := by kernel_rfl
theorem inf4 : ∃ i, Try.prog.info? 4 = some i ∧ i.zero = some (.bool false) ∧ i.size = 1 ∧ i.bytes = 1 := info_parts (by kernel_rfl : (Try.prog.info? 4).map (fun i => (i.zero, i.size, i.bytes)) = some (some (.bool false), 1, 1))
-- 5: uint8
theorem u5 : Try.prog.underlying 5 = some (.int .u8) := by kernel_rfl
theorem ag5 : (Try.prog.underlying 5).map isAggD = some false := by kernel_rfl
theorem sz5 : (Try.prog.info? 5).map (·.size) = some 1 := by kernel_rfl
theorem ze5 : (Try.prog.info? 5).bind (·.zero) = some (.int .u8 0) := by kernel_rfl
theorem inf5 : ∃ i, Try.prog.info? 5 = some i ∧ i.zero = some (.int .u8 0) ∧ i.size = 1 ∧ i.bytes = 1 := info_parts (by kernel_rfl : (Try.prog.info? 5).map (fun i => (i.zero, i.size, i.bytes)) = some (some (.int .u8 0), 1, 1))
-- 6: abi.BoundsErrorCode
theorem u6 : Try.prog.underlying 6 = some (.int .u8) := by kernel_rfl
theorem ag6 : (Try.prog.underlying 6).map isAggD = some false := by kernel_rfl
theorem sz6 : (Try.prog.info? 6).map (·.size) = some 1 := by kernel_rfl
theorem ze6 : (Try.prog.info? 6).bind (·.zero) = some (.int .u8 0) := by kernel_rfl
theorem inf6 : ∃ i, Try.prog.info? 6 = some i ∧ i.zero = some (.int .u8 0) ∧ i.size = 1 ∧ i.bytes = 1 := info_parts (by kernel_rfl : (Try.prog.info? 6).map (fun i => (i.zero, i.size, i.bytes)) = some (some (.int .u8 0), 1, 1))
-- 7: struct { x int64; y int; signed bool; code abi.BoundsErrorCode }
theorem ag7 : (Try.prog.underlying 7).map isAggD = some true := by kernel_rfl
theorem sz7 : (Try.prog.info? 7).map (·.size) = some 4 := by kernel_rfl
theorem ze7 : (Try.prog.info? 7).bind (·.zero) = some (.agg #[.int .i64 0, .int .i64 0, .bool false, .int .u8 0]) := by kernel_rfl
theorem inf7 : ∃ i, Try.prog.info? 7 = some i ∧ i.zero = some (.agg #[.int .i64 0, .int .i64 0, .bool false, .int .u8 0]) ∧ i.size = 4 ∧ i.bytes = 24 := info_parts (by kernel_rfl : (Try.prog.info? 7).map (fun i => (i.zero, i.size, i.bytes)) = some (some (.agg #[.int .i64 0, .int .i64 0, .bool false, .int .u8 0]), 4, 24))
-- 8: runtime.boundsError
theorem ag8 : (Try.prog.underlying 8).map isAggD = some true := by kernel_rfl
theorem sz8 : (Try.prog.info? 8).map (·.size) = some 4 := by kernel_rfl
theorem ze8 : (Try.prog.info? 8).bind (·.zero) = some (.agg #[.int .i64 0, .int .i64 0, .bool false, .int .u8 0]) := by kernel_rfl
theorem inf8 : ∃ i, Try.prog.info? 8 = some i ∧ i.zero = some (.agg #[.int .i64 0, .int .i64 0, .bool false, .int .u8 0]) ∧ i.size = 4 ∧ i.bytes = 24 := info_parts (by kernel_rfl : (Try.prog.info? 8).map (fun i => (i.zero, i.size, i.bytes)) = some (some (.agg #[.int .i64 0, .int .i64 0, .bool false, .int .u8 0]), 4, 24))
-- 9: string
theorem u9 : Try.prog.underlying 9 = some (.string) := by kernel_rfl
theorem ag9 : (Try.prog.underlying 9).map isAggD = some false := by kernel_rfl
theorem sz9 : (Try.prog.info? 9).map (·.size) = some 1 := by kernel_rfl
theorem ze9 : (Try.prog.info? 9).bind (·.zero) = some (.string ⟨#[]⟩) := by kernel_rfl
theorem inf9 : ∃ i, Try.prog.info? 9 = some i ∧ i.zero = some (.string ⟨#[]⟩) ∧ i.size = 1 ∧ i.bytes = 16 := info_parts (by kernel_rfl : (Try.prog.info? 9).map (fun i => (i.zero, i.size, i.bytes)) = some (some (.string ⟨#[]⟩), 1, 16))
-- 20: interface {}
theorem ag20 : (Try.prog.underlying 20).map isAggD = some false := by kernel_rfl
theorem sz20 : (Try.prog.info? 20).map (·.size) = some 1 := by kernel_rfl
theorem ze20 : (Try.prog.info? 20).bind (·.zero) = some (.nilIface) := by kernel_rfl
theorem inf20 : ∃ i, Try.prog.info? 20 = some i ∧ i.zero = some (.nilIface) ∧ i.size = 1 ∧ i.bytes = 16 := info_parts (by kernel_rfl : (Try.prog.info? 20).map (fun i => (i.zero, i.size, i.bytes)) = some (some (.nilIface), 1, 16))
-- 22: []uint8
theorem u22 : Try.prog.underlying 22 = some (.slice 5) := by kernel_rfl
theorem ag22 : (Try.prog.underlying 22).map isAggD = some false := by kernel_rfl
theorem sz22 : (Try.prog.info? 22).map (·.size) = some 1 := by kernel_rfl
theorem ze22 : (Try.prog.info? 22).bind (·.zero) = some (.slice none 0 0) := by kernel_rfl
theorem inf22 : ∃ i, Try.prog.info? 22 = some i ∧ i.zero = some (.slice none 0 0) ∧ i.size = 1 ∧ i.bytes = 24 := info_parts (by kernel_rfl : (Try.prog.info? 22).map (fun i => (i.zero, i.size, i.bytes)) = some (some (.slice none 0 0), 1, 24))
-- 24: api.Kind
theorem u24 : Try.prog.underlying 24 = some (.int .i64) := by kernel_rfl
theorem ag24 : (Try.prog.underlying 24).map isAggD = some false := by kernel_rfl
theorem sz24 : (Try.prog.info? 24).map (·.size) = some 1 := by kernel_rfl
theorem ze24 : (Try.prog.info? 24).bind (·.zero) = some (.int .i64 0) := by kernel_rfl
theorem inf24 : ∃ i, Try.prog.info? 24 = some i ∧ i.zero = some (.int .i64 0) ∧ i.size = 1 ∧ i.bytes = 8 := info_parts (by kernel_rfl : (Try.prog.info? 24).map (fun i => (i.zero, i.size, i.bytes)) = some (some (.int .i64 0), 1, 8))
-- 25: uint64
theorem u25 : Try.prog.underlying 25 = some (.int .u64) := by kernel_rfl
theorem ag25 : (Try.prog.underlying 25).map isAggD = some false := by kernel_rfl
theorem sz25 : (Try.prog.info? 25).map (·.size) = some 1 := by kernel_rfl
theorem ze25 : (Try.prog.info? 25).bind (·.zero) = some (.int .u64 0) := by kernel_rfl
theorem inf25 : ∃ i, Try.prog.info? 25 = some i ∧ i.zero = some (.int .u64 0) ∧ i.size = 1 ∧ i.bytes = 8 := info_parts (by kernel_rfl : (Try.prog.info? 25).map (fun i => (i.zero, i.size, i.bytes)) = some (some (.int .u64 0), 1, 8))
-- 26: api.Lsn
theorem u26 : Try.prog.underlying 26 = some (.int .u64) := by kernel_rfl
theorem ag26 : (Try.prog.underlying 26).map isAggD = some false := by kernel_rfl
theorem sz26 : (Try.prog.info? 26).map (·.size) = some 1 := by kernel_rfl
theorem ze26 : (Try.prog.info? 26).bind (·.zero) = some (.int .u64 0) := by kernel_rfl
theorem inf26 : ∃ i, Try.prog.info? 26 = some i ∧ i.zero = some (.int .u64 0) ∧ i.size = 1 ∧ i.bytes = 8 := info_parts (by kernel_rfl : (Try.prog.info? 26).map (fun i => (i.zero, i.size, i.bytes)) = some (some (.int .u64 0), 1, 8))
-- 27: api.ActKind
theorem u27 : Try.prog.underlying 27 = some (.int .i64) := by kernel_rfl
theorem ag27 : (Try.prog.underlying 27).map isAggD = some false := by kernel_rfl
theorem sz27 : (Try.prog.info? 27).map (·.size) = some 1 := by kernel_rfl
theorem ze27 : (Try.prog.info? 27).bind (·.zero) = some (.int .i64 0) := by kernel_rfl
theorem inf27 : ∃ i, Try.prog.info? 27 = some i ∧ i.zero = some (.int .i64 0) ∧ i.size = 1 ∧ i.bytes = 8 := info_parts (by kernel_rfl : (Try.prog.info? 27).map (fun i => (i.zero, i.size, i.bytes)) = some (some (.int .i64 0), 1, 8))
-- 28: struct { Kind api.ActKind; Key string; Old string; New string }
theorem ag28 : (Try.prog.underlying 28).map isAggD = some true := by kernel_rfl
theorem sz28 : (Try.prog.info? 28).map (·.size) = some 4 := by kernel_rfl
theorem ze28 : (Try.prog.info? 28).bind (·.zero) = some (.agg #[.int .i64 0, .string ⟨#[]⟩, .string ⟨#[]⟩, .string ⟨#[]⟩]) := by kernel_rfl
theorem inf28 : ∃ i, Try.prog.info? 28 = some i ∧ i.zero = some (.agg #[.int .i64 0, .string ⟨#[]⟩, .string ⟨#[]⟩, .string ⟨#[]⟩]) ∧ i.size = 4 ∧ i.bytes = 56 := info_parts (by kernel_rfl : (Try.prog.info? 28).map (fun i => (i.zero, i.size, i.bytes)) = some (some (.agg #[.int .i64 0, .string ⟨#[]⟩, .string ⟨#[]⟩, .string ⟨#[]⟩]), 4, 56))
-- 29: api.Act
theorem ag29 : (Try.prog.underlying 29).map isAggD = some true := by kernel_rfl
theorem sz29 : (Try.prog.info? 29).map (·.size) = some 4 := by kernel_rfl
theorem ze29 : (Try.prog.info? 29).bind (·.zero) = some (.agg #[.int .i64 0, .string ⟨#[]⟩, .string ⟨#[]⟩, .string ⟨#[]⟩]) := by kernel_rfl
theorem inf29 : ∃ i, Try.prog.info? 29 = some i ∧ i.zero = some (.agg #[.int .i64 0, .string ⟨#[]⟩, .string ⟨#[]⟩, .string ⟨#[]⟩]) ∧ i.size = 4 ∧ i.bytes = 56 := info_parts (by kernel_rfl : (Try.prog.info? 29).map (fun i => (i.zero, i.size, i.bytes)) = some (some (.agg #[.int .i64 0, .string ⟨#[]⟩, .string ⟨#[]⟩, .string ⟨#[]⟩]), 4, 56))
-- 30: []api.Txn
theorem u30 : Try.prog.underlying 30 = some (.slice 51) := by kernel_rfl
theorem ag30 : (Try.prog.underlying 30).map isAggD = some false := by kernel_rfl
theorem sz30 : (Try.prog.info? 30).map (·.size) = some 1 := by kernel_rfl
theorem ze30 : (Try.prog.info? 30).bind (·.zero) = some (.slice none 0 0) := by kernel_rfl
theorem inf30 : ∃ i, Try.prog.info? 30 = some i ∧ i.zero = some (.slice none 0 0) ∧ i.size = 1 ∧ i.bytes = 24 := info_parts (by kernel_rfl : (Try.prog.info? 30).map (fun i => (i.zero, i.size, i.bytes)) = some (some (.slice none 0 0), 1, 24))
-- 31: []api.Dirty
theorem u31 : Try.prog.underlying 31 = some (.slice 53) := by kernel_rfl
theorem ag31 : (Try.prog.underlying 31).map isAggD = some false := by kernel_rfl
theorem sz31 : (Try.prog.info? 31).map (·.size) = some 1 := by kernel_rfl
theorem ze31 : (Try.prog.info? 31).bind (·.zero) = some (.slice none 0 0) := by kernel_rfl
theorem inf31 : ∃ i, Try.prog.info? 31 = some i ∧ i.zero = some (.slice none 0 0) ∧ i.size = 1 ∧ i.bytes = 24 := info_parts (by kernel_rfl : (Try.prog.info? 31).map (fun i => (i.zero, i.size, i.bytes)) = some (some (.slice none 0 0), 1, 24))
-- 32: struct { Kind api.Kind; Lsn api.Lsn; Txn int; Prev api.Lsn; Undo api.Lsn; Page int; Act api.Act; Txn
theorem ag32 : (Try.prog.underlying 32).map isAggD = some true := by kernel_rfl
theorem sz32 : (Try.prog.info? 32).map (·.size) = some 12 := by kernel_rfl
theorem ze32 : (Try.prog.info? 32).bind (·.zero) = some (.agg #[.int .i64 0, .int .u64 0, .int .i64 0, .int .u64 0, .int .u64 0, .int .i64 0, .int .i64 0, .string ⟨#[]⟩, .string ⟨#[]⟩, .string ⟨#[]⟩, .slice none 0 0, .slice none 0 0]) := by kernel_rfl
theorem inf32 : ∃ i, Try.prog.info? 32 = some i ∧ i.zero = some (.agg #[.int .i64 0, .int .u64 0, .int .i64 0, .int .u64 0, .int .u64 0, .int .i64 0, .int .i64 0, .string ⟨#[]⟩, .string ⟨#[]⟩, .string ⟨#[]⟩, .slice none 0 0, .slice none 0 0]) ∧ i.size = 12 ∧ i.bytes = 152 := info_parts (by kernel_rfl : (Try.prog.info? 32).map (fun i => (i.zero, i.size, i.bytes)) = some (some (.agg #[.int .i64 0, .int .u64 0, .int .i64 0, .int .u64 0, .int .u64 0, .int .i64 0, .int .i64 0, .string ⟨#[]⟩, .string ⟨#[]⟩, .string ⟨#[]⟩, .slice none 0 0, .slice none 0 0]), 12, 152))
-- 33: api.Record
theorem ag33 : (Try.prog.underlying 33).map isAggD = some true := by kernel_rfl
theorem sz33 : (Try.prog.info? 33).map (·.size) = some 12 := by kernel_rfl
theorem ze33 : (Try.prog.info? 33).bind (·.zero) = some (.agg #[.int .i64 0, .int .u64 0, .int .i64 0, .int .u64 0, .int .u64 0, .int .i64 0, .int .i64 0, .string ⟨#[]⟩, .string ⟨#[]⟩, .string ⟨#[]⟩, .slice none 0 0, .slice none 0 0]) := by kernel_rfl
theorem inf33 : ∃ i, Try.prog.info? 33 = some i ∧ i.zero = some (.agg #[.int .i64 0, .int .u64 0, .int .i64 0, .int .u64 0, .int .u64 0, .int .i64 0, .int .i64 0, .string ⟨#[]⟩, .string ⟨#[]⟩, .string ⟨#[]⟩, .slice none 0 0, .slice none 0 0]) ∧ i.size = 12 ∧ i.bytes = 152 := info_parts (by kernel_rfl : (Try.prog.info? 33).map (fun i => (i.zero, i.size, i.bytes)) = some (some (.agg #[.int .i64 0, .int .u64 0, .int .i64 0, .int .u64 0, .int .u64 0, .int .i64 0, .int .i64 0, .string ⟨#[]⟩, .string ⟨#[]⟩, .string ⟨#[]⟩, .slice none 0 0, .slice none 0 0]), 12, 152))
-- 34: api.Errno
theorem u34 : Try.prog.underlying 34 = some (.int .i64) := by kernel_rfl
theorem ag34 : (Try.prog.underlying 34).map isAggD = some false := by kernel_rfl
theorem sz34 : (Try.prog.info? 34).map (·.size) = some 1 := by kernel_rfl
theorem ze34 : (Try.prog.info? 34).bind (·.zero) = some (.int .i64 0) := by kernel_rfl
theorem inf34 : ∃ i, Try.prog.info? 34 = some i ∧ i.zero = some (.int .i64 0) ∧ i.size = 1 ∧ i.bytes = 8 := info_parts (by kernel_rfl : (Try.prog.info? 34).map (fun i => (i.zero, i.size, i.bytes)) = some (some (.int .i64 0), 1, 8))
-- 49: api.TxnState
theorem u49 : Try.prog.underlying 49 = some (.int .i64) := by kernel_rfl
theorem ag49 : (Try.prog.underlying 49).map isAggD = some false := by kernel_rfl
theorem sz49 : (Try.prog.info? 49).map (·.size) = some 1 := by kernel_rfl
theorem ze49 : (Try.prog.info? 49).bind (·.zero) = some (.int .i64 0) := by kernel_rfl
theorem inf49 : ∃ i, Try.prog.info? 49 = some i ∧ i.zero = some (.int .i64 0) ∧ i.size = 1 ∧ i.bytes = 8 := info_parts (by kernel_rfl : (Try.prog.info? 49).map (fun i => (i.zero, i.size, i.bytes)) = some (some (.int .i64 0), 1, 8))
-- 50: struct { ID int; State api.TxnState; Last api.Lsn }
theorem ag50 : (Try.prog.underlying 50).map isAggD = some true := by kernel_rfl
theorem sz50 : (Try.prog.info? 50).map (·.size) = some 3 := by kernel_rfl
theorem ze50 : (Try.prog.info? 50).bind (·.zero) = some (.agg #[.int .i64 0, .int .i64 0, .int .u64 0]) := by kernel_rfl
theorem inf50 : ∃ i, Try.prog.info? 50 = some i ∧ i.zero = some (.agg #[.int .i64 0, .int .i64 0, .int .u64 0]) ∧ i.size = 3 ∧ i.bytes = 24 := info_parts (by kernel_rfl : (Try.prog.info? 50).map (fun i => (i.zero, i.size, i.bytes)) = some (some (.agg #[.int .i64 0, .int .i64 0, .int .u64 0]), 3, 24))
-- 51: api.Txn
theorem ag51 : (Try.prog.underlying 51).map isAggD = some true := by kernel_rfl
theorem sz51 : (Try.prog.info? 51).map (·.size) = some 3 := by kernel_rfl
theorem ze51 : (Try.prog.info? 51).bind (·.zero) = some (.agg #[.int .i64 0, .int .i64 0, .int .u64 0]) := by kernel_rfl
theorem inf51 : ∃ i, Try.prog.info? 51 = some i ∧ i.zero = some (.agg #[.int .i64 0, .int .i64 0, .int .u64 0]) ∧ i.size = 3 ∧ i.bytes = 24 := info_parts (by kernel_rfl : (Try.prog.info? 51).map (fun i => (i.zero, i.size, i.bytes)) = some (some (.agg #[.int .i64 0, .int .i64 0, .int .u64 0]), 3, 24))
-- 52: struct { Page int; Rec api.Lsn }
theorem ag52 : (Try.prog.underlying 52).map isAggD = some true := by kernel_rfl
theorem sz52 : (Try.prog.info? 52).map (·.size) = some 2 := by kernel_rfl
theorem ze52 : (Try.prog.info? 52).bind (·.zero) = some (.agg #[.int .i64 0, .int .u64 0]) := by kernel_rfl
theorem inf52 : ∃ i, Try.prog.info? 52 = some i ∧ i.zero = some (.agg #[.int .i64 0, .int .u64 0]) ∧ i.size = 2 ∧ i.bytes = 16 := info_parts (by kernel_rfl : (Try.prog.info? 52).map (fun i => (i.zero, i.size, i.bytes)) = some (some (.agg #[.int .i64 0, .int .u64 0]), 2, 16))
-- 53: api.Dirty
theorem ag53 : (Try.prog.underlying 53).map isAggD = some true := by kernel_rfl
theorem sz53 : (Try.prog.info? 53).map (·.size) = some 2 := by kernel_rfl
theorem ze53 : (Try.prog.info? 53).bind (·.zero) = some (.agg #[.int .i64 0, .int .u64 0]) := by kernel_rfl
theorem inf53 : ∃ i, Try.prog.info? 53 = some i ∧ i.zero = some (.agg #[.int .i64 0, .int .u64 0]) ∧ i.size = 2 ∧ i.bytes = 16 := info_parts (by kernel_rfl : (Try.prog.info? 53).map (fun i => (i.zero, i.size, i.bytes)) = some (some (.agg #[.int .i64 0, .int .u64 0]), 2, 16))
-- 56: struct { why api.Errno }
theorem ag56 : (Try.prog.underlying 56).map isAggD = some true := by kernel_rfl
theorem sz56 : (Try.prog.info? 56).map (·.size) = some 1 := by kernel_rfl
theorem ze56 : (Try.prog.info? 56).bind (·.zero) = some (.agg #[.int .i64 0]) := by kernel_rfl
theorem inf56 : ∃ i, Try.prog.info? 56 = some i ∧ i.zero = some (.agg #[.int .i64 0]) ∧ i.size = 1 ∧ i.bytes = 8 := info_parts (by kernel_rfl : (Try.prog.info? 56).map (fun i => (i.zero, i.size, i.bytes)) = some (some (.agg #[.int .i64 0]), 1, 8))
-- 57: rec.fault
theorem ag57 : (Try.prog.underlying 57).map isAggD = some true := by kernel_rfl
theorem sz57 : (Try.prog.info? 57).map (·.size) = some 1 := by kernel_rfl
theorem ze57 : (Try.prog.info? 57).bind (·.zero) = some (.agg #[.int .i64 0]) := by kernel_rfl
theorem inf57 : ∃ i, Try.prog.info? 57 = some i ∧ i.zero = some (.agg #[.int .i64 0]) ∧ i.size = 1 ∧ i.bytes = 8 := info_parts (by kernel_rfl : (Try.prog.info? 57).map (fun i => (i.zero, i.size, i.bytes)) = some (some (.agg #[.int .i64 0]), 1, 8))
-- 60: *enc.Reader
theorem u60 : Try.prog.underlying 60 = some (.pointer 99) := by kernel_rfl
theorem ag60 : (Try.prog.underlying 60).map isAggD = some false := by kernel_rfl
theorem sz60 : (Try.prog.info? 60).map (·.size) = some 1 := by kernel_rfl
theorem ze60 : (Try.prog.info? 60).bind (·.zero) = some (.pointer none) := by kernel_rfl
theorem inf60 : ∃ i, Try.prog.info? 60 = some i ∧ i.zero = some (.pointer none) ∧ i.size = 1 ∧ i.bytes = 8 := info_parts (by kernel_rfl : (Try.prog.info? 60).map (fun i => (i.zero, i.size, i.bytes)) = some (some (.pointer none), 1, 8))
-- 62: struct { B string; At int; Err api.Errno }
theorem ag62 : (Try.prog.underlying 62).map isAggD = some true := by kernel_rfl
theorem sz62 : (Try.prog.info? 62).map (·.size) = some 3 := by kernel_rfl
theorem ze62 : (Try.prog.info? 62).bind (·.zero) = some (.agg #[.string ⟨#[]⟩, .int .i64 0, .int .i64 0]) := by kernel_rfl
theorem inf62 : ∃ i, Try.prog.info? 62 = some i ∧ i.zero = some (.agg #[.string ⟨#[]⟩, .int .i64 0, .int .i64 0]) ∧ i.size = 3 ∧ i.bytes = 32 := info_parts (by kernel_rfl : (Try.prog.info? 62).map (fun i => (i.zero, i.size, i.bytes)) = some (some (.agg #[.string ⟨#[]⟩, .int .i64 0, .int .i64 0]), 3, 32))
-- 63: flotillaref01.Reader
theorem ag63 : (Try.prog.underlying 63).map isAggD = some true := by kernel_rfl
theorem sz63 : (Try.prog.info? 63).map (·.size) = some 3 := by kernel_rfl
theorem ze63 : (Try.prog.info? 63).bind (·.zero) = some (.agg #[.string ⟨#[]⟩, .int .i64 0, .int .i64 0]) := by kernel_rfl
theorem inf63 : ∃ i, Try.prog.info? 63 = some i ∧ i.zero = some (.agg #[.string ⟨#[]⟩, .int .i64 0, .int .i64 0]) ∧ i.size = 3 ∧ i.bytes = 32 := info_parts (by kernel_rfl : (Try.prog.info? 63).map (fun i => (i.zero, i.size, i.bytes)) = some (some (.agg #[.string ⟨#[]⟩, .int .i64 0, .int .i64 0]), 3, 32))
-- 70: uint16
theorem u70 : Try.prog.underlying 70 = some (.int .u16) := by kernel_rfl
theorem ag70 : (Try.prog.underlying 70).map isAggD = some false := by kernel_rfl
theorem sz70 : (Try.prog.info? 70).map (·.size) = some 1 := by kernel_rfl
theorem ze70 : (Try.prog.info? 70).bind (·.zero) = some (.int .u16 0) := by kernel_rfl
theorem inf70 : ∃ i, Try.prog.info? 70 = some i ∧ i.zero = some (.int .u16 0) ∧ i.size = 1 ∧ i.bytes = 2 := info_parts (by kernel_rfl : (Try.prog.info? 70).map (fun i => (i.zero, i.size, i.bytes)) = some (some (.int .u16 0), 1, 2))
-- 76: *enc.Writer
theorem u76 : Try.prog.underlying 76 = some (.pointer 108) := by kernel_rfl
theorem ag76 : (Try.prog.underlying 76).map isAggD = some false := by kernel_rfl
theorem sz76 : (Try.prog.info? 76).map (·.size) = some 1 := by kernel_rfl
theorem ze76 : (Try.prog.info? 76).bind (·.zero) = some (.pointer none) := by kernel_rfl
theorem inf76 : ∃ i, Try.prog.info? 76 = some i ∧ i.zero = some (.pointer none) ∧ i.size = 1 ∧ i.bytes = 8 := info_parts (by kernel_rfl : (Try.prog.info? 76).map (fun i => (i.zero, i.size, i.bytes)) = some (some (.pointer none), 1, 8))
-- 89: uint32
theorem u89 : Try.prog.underlying 89 = some (.int .u32) := by kernel_rfl
theorem ag89 : (Try.prog.underlying 89).map isAggD = some false := by kernel_rfl
theorem sz89 : (Try.prog.info? 89).map (·.size) = some 1 := by kernel_rfl
theorem ze89 : (Try.prog.info? 89).bind (·.zero) = some (.int .u32 0) := by kernel_rfl
theorem inf89 : ∃ i, Try.prog.info? 89 = some i ∧ i.zero = some (.int .u32 0) ∧ i.size = 1 ∧ i.bytes = 4 := info_parts (by kernel_rfl : (Try.prog.info? 89).map (fun i => (i.zero, i.size, i.bytes)) = some (some (.int .u32 0), 1, 4))
-- 96: struct { b []uint8 }
theorem ag96 : (Try.prog.underlying 96).map isAggD = some true := by kernel_rfl
theorem sz96 : (Try.prog.info? 96).map (·.size) = some 1 := by kernel_rfl
theorem ze96 : (Try.prog.info? 96).bind (·.zero) = some (.agg #[.slice none 0 0]) := by kernel_rfl
theorem inf96 : ∃ i, Try.prog.info? 96 = some i ∧ i.zero = some (.agg #[.slice none 0 0]) ∧ i.size = 1 ∧ i.bytes = 24 := info_parts (by kernel_rfl : (Try.prog.info? 96).map (fun i => (i.zero, i.size, i.bytes)) = some (some (.agg #[.slice none 0 0]), 1, 24))
-- 97: enc.buf
theorem ag97 : (Try.prog.underlying 97).map isAggD = some true := by kernel_rfl
theorem sz97 : (Try.prog.info? 97).map (·.size) = some 1 := by kernel_rfl
theorem ze97 : (Try.prog.info? 97).bind (·.zero) = some (.agg #[.slice none 0 0]) := by kernel_rfl
theorem inf97 : ∃ i, Try.prog.info? 97 = some i ∧ i.zero = some (.agg #[.slice none 0 0]) ∧ i.size = 1 ∧ i.bytes = 24 := info_parts (by kernel_rfl : (Try.prog.info? 97).map (fun i => (i.zero, i.size, i.bytes)) = some (some (.agg #[.slice none 0 0]), 1, 24))
-- 98: struct { enc.buf; err api.Errno }
theorem ag98 : (Try.prog.underlying 98).map isAggD = some true := by kernel_rfl
theorem sz98 : (Try.prog.info? 98).map (·.size) = some 2 := by kernel_rfl
theorem ze98 : (Try.prog.info? 98).bind (·.zero) = some (.agg #[.slice none 0 0, .int .i64 0]) := by kernel_rfl
theorem inf98 : ∃ i, Try.prog.info? 98 = some i ∧ i.zero = some (.agg #[.slice none 0 0, .int .i64 0]) ∧ i.size = 2 ∧ i.bytes = 32 := info_parts (by kernel_rfl : (Try.prog.info? 98).map (fun i => (i.zero, i.size, i.bytes)) = some (some (.agg #[.slice none 0 0, .int .i64 0]), 2, 32))
-- 99: enc.Reader
theorem ag99 : (Try.prog.underlying 99).map isAggD = some true := by kernel_rfl
theorem sz99 : (Try.prog.info? 99).map (·.size) = some 2 := by kernel_rfl
theorem ze99 : (Try.prog.info? 99).bind (·.zero) = some (.agg #[.slice none 0 0, .int .i64 0]) := by kernel_rfl
theorem inf99 : ∃ i, Try.prog.info? 99 = some i ∧ i.zero = some (.agg #[.slice none 0 0, .int .i64 0]) ∧ i.size = 2 ∧ i.bytes = 32 := info_parts (by kernel_rfl : (Try.prog.info? 99).map (fun i => (i.zero, i.size, i.bytes)) = some (some (.agg #[.slice none 0 0, .int .i64 0]), 2, 32))
-- 107: struct { enc.buf }
theorem ag107 : (Try.prog.underlying 107).map isAggD = some true := by kernel_rfl
theorem sz107 : (Try.prog.info? 107).map (·.size) = some 1 := by kernel_rfl
theorem ze107 : (Try.prog.info? 107).bind (·.zero) = some (.agg #[.slice none 0 0]) := by kernel_rfl
theorem inf107 : ∃ i, Try.prog.info? 107 = some i ∧ i.zero = some (.agg #[.slice none 0 0]) ∧ i.size = 1 ∧ i.bytes = 24 := info_parts (by kernel_rfl : (Try.prog.info? 107).map (fun i => (i.zero, i.size, i.bytes)) = some (some (.agg #[.slice none 0 0]), 1, 24))
-- 108: enc.Writer
theorem ag108 : (Try.prog.underlying 108).map isAggD = some true := by kernel_rfl
theorem sz108 : (Try.prog.info? 108).map (·.size) = some 1 := by kernel_rfl
theorem ze108 : (Try.prog.info? 108).bind (·.zero) = some (.agg #[.slice none 0 0]) := by kernel_rfl
theorem inf108 : ∃ i, Try.prog.info? 108 = some i ∧ i.zero = some (.agg #[.slice none 0 0]) ∧ i.size = 1 ∧ i.bytes = 24 := info_parts (by kernel_rfl : (Try.prog.info? 108).map (fun i => (i.zero, i.size, i.bytes)) = some (some (.agg #[.slice none 0 0]), 1, 24))
-- 114: [16]uint32
theorem u114 : Try.prog.underlying 114 = some (.array 16 89) := by kernel_rfl
theorem ag114 : (Try.prog.underlying 114).map isAggD = some true := by kernel_rfl
theorem sz114 : (Try.prog.info? 114).map (·.size) = some 16 := by kernel_rfl
theorem ze114 : (Try.prog.info? 114).bind (·.zero) = some (.agg #[.int .u32 0, .int .u32 0, .int .u32 0, .int .u32 0, .int .u32 0, .int .u32 0, .int .u32 0, .int .u32 0, .int .u32 0, .int .u32 0, .int .u32 0, .int .u32 0, .int .u32 0, .int .u32 0, .int .u32 0, .int .u32 0]) := by kernel_rfl
theorem inf114 : ∃ i, Try.prog.info? 114 = some i ∧ i.zero = some (.agg #[.int .u32 0, .int .u32 0, .int .u32 0, .int .u32 0, .int .u32 0, .int .u32 0, .int .u32 0, .int .u32 0, .int .u32 0, .int .u32 0, .int .u32 0, .int .u32 0, .int .u32 0, .int .u32 0, .int .u32 0, .int .u32 0]) ∧ i.size = 16 ∧ i.bytes = 64 := info_parts (by kernel_rfl : (Try.prog.info? 114).map (fun i => (i.zero, i.size, i.bytes)) = some (some (.agg #[.int .u32 0, .int .u32 0, .int .u32 0, .int .u32 0, .int .u32 0, .int .u32 0, .int .u32 0, .int .u32 0, .int .u32 0, .int .u32 0, .int .u32 0, .int .u32 0, .int .u32 0, .int .u32 0, .int .u32 0, .int .u32 0]), 16, 64))

theorem rpeql60 {x y : Operand} {a : Addr} {w : World} : (sBin .eql 60 x y (.pointer (some a)) (.pointer none)).run Try.prog w = .ok (.value (.bool false)) w := by kernel_rfl
theorem rneql60 {x y : Operand} {w : World} : (sBin .eql 60 x y (.pointer none) (.pointer none)).run Try.prog w = .ok (.value (.bool true)) w := by kernel_rfl
theorem rpeql76 {x y : Operand} {a : Addr} {w : World} : (sBin .eql 76 x y (.pointer (some a)) (.pointer none)).run Try.prog w = .ok (.value (.bool false)) w := by kernel_rfl
theorem rneql76 {x y : Operand} {w : World} : (sBin .eql 76 x y (.pointer none) (.pointer none)).run Try.prog w = .ok (.value (.bool true)) w := by kernel_rfl
theorem rfa108_0 {a : Addr} {w : World} : (sFieldAddr 108 (.pointer (some a)) 0).run Try.prog w = .ok (.value (.pointer (some (a)))) w := by kernel_rfl
theorem rfa29_0 {a : Addr} {w : World} : (sFieldAddr 29 (.pointer (some a)) 0).run Try.prog w = .ok (.value (.pointer (some (a)))) w := by kernel_rfl
theorem rfa29_1 {a : Addr} {w : World} : (sFieldAddr 29 (.pointer (some a)) 1).run Try.prog w = .ok (.value (.pointer (some (a.add 1)))) w := by kernel_rfl
theorem rfa29_2 {a : Addr} {w : World} : (sFieldAddr 29 (.pointer (some a)) 2).run Try.prog w = .ok (.value (.pointer (some (a.add 2)))) w := by kernel_rfl
theorem rfa29_3 {a : Addr} {w : World} : (sFieldAddr 29 (.pointer (some a)) 3).run Try.prog w = .ok (.value (.pointer (some (a.add 3)))) w := by kernel_rfl
theorem rfa33_0 {a : Addr} {w : World} : (sFieldAddr 33 (.pointer (some a)) 0).run Try.prog w = .ok (.value (.pointer (some (a)))) w := by kernel_rfl
theorem rfa33_1 {a : Addr} {w : World} : (sFieldAddr 33 (.pointer (some a)) 1).run Try.prog w = .ok (.value (.pointer (some (a.add 1)))) w := by kernel_rfl
theorem rfa33_2 {a : Addr} {w : World} : (sFieldAddr 33 (.pointer (some a)) 2).run Try.prog w = .ok (.value (.pointer (some (a.add 2)))) w := by kernel_rfl
theorem rfa33_3 {a : Addr} {w : World} : (sFieldAddr 33 (.pointer (some a)) 3).run Try.prog w = .ok (.value (.pointer (some (a.add 3)))) w := by kernel_rfl
theorem rfa33_4 {a : Addr} {w : World} : (sFieldAddr 33 (.pointer (some a)) 4).run Try.prog w = .ok (.value (.pointer (some (a.add 4)))) w := by kernel_rfl
theorem rfa33_5 {a : Addr} {w : World} : (sFieldAddr 33 (.pointer (some a)) 5).run Try.prog w = .ok (.value (.pointer (some (a.add 5)))) w := by kernel_rfl
theorem rfa33_6 {a : Addr} {w : World} : (sFieldAddr 33 (.pointer (some a)) 6).run Try.prog w = .ok (.value (.pointer (some (a.add 6)))) w := by kernel_rfl
theorem rfa33_7 {a : Addr} {w : World} : (sFieldAddr 33 (.pointer (some a)) 7).run Try.prog w = .ok (.value (.pointer (some (a.add 10)))) w := by kernel_rfl
theorem rfa33_8 {a : Addr} {w : World} : (sFieldAddr 33 (.pointer (some a)) 8).run Try.prog w = .ok (.value (.pointer (some (a.add 11)))) w := by kernel_rfl
theorem rfa51_0 {a : Addr} {w : World} : (sFieldAddr 51 (.pointer (some a)) 0).run Try.prog w = .ok (.value (.pointer (some (a)))) w := by kernel_rfl
theorem rfa51_1 {a : Addr} {w : World} : (sFieldAddr 51 (.pointer (some a)) 1).run Try.prog w = .ok (.value (.pointer (some (a.add 1)))) w := by kernel_rfl
theorem rfa51_2 {a : Addr} {w : World} : (sFieldAddr 51 (.pointer (some a)) 2).run Try.prog w = .ok (.value (.pointer (some (a.add 2)))) w := by kernel_rfl
theorem rfa53_0 {a : Addr} {w : World} : (sFieldAddr 53 (.pointer (some a)) 0).run Try.prog w = .ok (.value (.pointer (some (a)))) w := by kernel_rfl
theorem rfa53_1 {a : Addr} {w : World} : (sFieldAddr 53 (.pointer (some a)) 1).run Try.prog w = .ok (.value (.pointer (some (a.add 1)))) w := by kernel_rfl
theorem rfa57_0 {a : Addr} {w : World} : (sFieldAddr 57 (.pointer (some a)) 0).run Try.prog w = .ok (.value (.pointer (some (a)))) w := by kernel_rfl
theorem rfa63_0 {a : Addr} {w : World} : (sFieldAddr 63 (.pointer (some a)) 0).run Try.prog w = .ok (.value (.pointer (some (a)))) w := by kernel_rfl
theorem rfa63_1 {a : Addr} {w : World} : (sFieldAddr 63 (.pointer (some a)) 1).run Try.prog w = .ok (.value (.pointer (some (a.add 1)))) w := by kernel_rfl
theorem rfa63_2 {a : Addr} {w : World} : (sFieldAddr 63 (.pointer (some a)) 2).run Try.prog w = .ok (.value (.pointer (some (a.add 2)))) w := by kernel_rfl
theorem rfa97_0 {a : Addr} {w : World} : (sFieldAddr 97 (.pointer (some a)) 0).run Try.prog w = .ok (.value (.pointer (some (a)))) w := by kernel_rfl
theorem rfa99_0 {a : Addr} {w : World} : (sFieldAddr 99 (.pointer (some a)) 0).run Try.prog w = .ok (.value (.pointer (some (a)))) w := by kernel_rfl
theorem rfa99_1 {a : Addr} {w : World} : (sFieldAddr 99 (.pointer (some a)) 1).run Try.prog w = .ok (.value (.pointer (some (a.add 1)))) w := by kernel_rfl
theorem rxa114 {a : Addr} {i : Nat} {w : World} (h : i < 16) : (sIndexAddr 114 (.pointer (some a)) (.int .i64 (i : Nat))).run Try.prog w = .ok (.value (.pointer (some (a.add (i))))) w := by
  have := run_idxA (P := Try.prog) (w := w) (a := a) (q := .i64) (i := (i : Nat)) u114 sz89 (by omega) (show ((i : Nat) : Int) < (16 : Nat) by omega)
  rw [show ((i : Nat) : Int).toNat * 1 = i by omega] at this
  exact this
theorem rix22 {a : Addr} {n c i : Nat} {w : World} (h : i < n) : (sIndexAddr 22 (.slice (some a) n c) (.int .i64 (i : Nat))).run Try.prog w = .ok (.value (.pointer (some (a.add (i))))) w := by
  have := run_idxS (P := Try.prog) (w := w) (a := a) (c := c) (q := .i64) (i := (i : Nat)) u22 sz5 (by omega) (show ((i : Nat) : Int) < n by omega)
  rw [show ((i : Nat) : Int).toNat * 1 = i by omega] at this
  exact this
theorem rix30 {a : Addr} {n c i : Nat} {w : World} (h : i < n) : (sIndexAddr 30 (.slice (some a) n c) (.int .i64 (i : Nat))).run Try.prog w = .ok (.value (.pointer (some (a.add (i * 3))))) w := by
  have := run_idxS (P := Try.prog) (w := w) (a := a) (c := c) (q := .i64) (i := (i : Nat)) u30 sz51 (by omega) (show ((i : Nat) : Int) < n by omega)
  rw [show ((i : Nat) : Int).toNat * 3 = i * 3 by omega] at this
  exact this
theorem rix31 {a : Addr} {n c i : Nat} {w : World} (h : i < n) : (sIndexAddr 31 (.slice (some a) n c) (.int .i64 (i : Nat))).run Try.prog w = .ok (.value (.pointer (some (a.add (i * 2))))) w := by
  have := run_idxS (P := Try.prog) (w := w) (a := a) (c := c) (q := .i64) (i := (i : Nat)) u31 sz53 (by omega) (show ((i : Nat) : Int) < n by omega)
  rw [show ((i : Nat) : Int).toNat * 2 = i * 2 by omega] at this
  exact this
theorem ld22 {a : Addr} {v : Value} {w : World} {K : Value → World → Prop} (h : w.cell? a = some v) : (std Try.prog).step (sLoad 22 (.pointer (some a))) w K = K v w := step_run (run_sLoad (run_loadVar1 ag22 h))
theorem sld22 {a : Addr} {v : Value} {S : World → Prop} {k : Value → Prop} (hne : ∃ w, S w) (h : ∀ w, S w → w.cell? a = some v) : (std Try.prog).stepS S (sLoad 22 (.pointer (some a))) k = k v := stepS_run hne fun w hw => run_sLoad (run_loadVar1 ag22 (h w hw))
theorem ld24 {a : Addr} {v : Value} {w : World} {K : Value → World → Prop} (h : w.cell? a = some v) : (std Try.prog).step (sLoad 24 (.pointer (some a))) w K = K v w := step_run (run_sLoad (run_loadVar1 ag24 h))
theorem sld24 {a : Addr} {v : Value} {S : World → Prop} {k : Value → Prop} (hne : ∃ w, S w) (h : ∀ w, S w → w.cell? a = some v) : (std Try.prog).stepS S (sLoad 24 (.pointer (some a))) k = k v := stepS_run hne fun w hw => run_sLoad (run_loadVar1 ag24 (h w hw))
theorem ld26 {a : Addr} {v : Value} {w : World} {K : Value → World → Prop} (h : w.cell? a = some v) : (std Try.prog).step (sLoad 26 (.pointer (some a))) w K = K v w := step_run (run_sLoad (run_loadVar1 ag26 h))
theorem sld26 {a : Addr} {v : Value} {S : World → Prop} {k : Value → Prop} (hne : ∃ w, S w) (h : ∀ w, S w → w.cell? a = some v) : (std Try.prog).stepS S (sLoad 26 (.pointer (some a))) k = k v := stepS_run hne fun w hw => run_sLoad (run_loadVar1 ag26 (h w hw))
theorem ld27 {a : Addr} {v : Value} {w : World} {K : Value → World → Prop} (h : w.cell? a = some v) : (std Try.prog).step (sLoad 27 (.pointer (some a))) w K = K v w := step_run (run_sLoad (run_loadVar1 ag27 h))
theorem sld27 {a : Addr} {v : Value} {S : World → Prop} {k : Value → Prop} (hne : ∃ w, S w) (h : ∀ w, S w → w.cell? a = some v) : (std Try.prog).stepS S (sLoad 27 (.pointer (some a))) k = k v := stepS_run hne fun w hw => run_sLoad (run_loadVar1 ag27 (h w hw))
theorem ld3 {a : Addr} {v : Value} {w : World} {K : Value → World → Prop} (h : w.cell? a = some v) : (std Try.prog).step (sLoad 3 (.pointer (some a))) w K = K v w := step_run (run_sLoad (run_loadVar1 ag3 h))
theorem sld3 {a : Addr} {v : Value} {S : World → Prop} {k : Value → Prop} (hne : ∃ w, S w) (h : ∀ w, S w → w.cell? a = some v) : (std Try.prog).stepS S (sLoad 3 (.pointer (some a))) k = k v := stepS_run hne fun w hw => run_sLoad (run_loadVar1 ag3 (h w hw))
theorem ld30 {a : Addr} {v : Value} {w : World} {K : Value → World → Prop} (h : w.cell? a = some v) : (std Try.prog).step (sLoad 30 (.pointer (some a))) w K = K v w := step_run (run_sLoad (run_loadVar1 ag30 h))
theorem sld30 {a : Addr} {v : Value} {S : World → Prop} {k : Value → Prop} (hne : ∃ w, S w) (h : ∀ w, S w → w.cell? a = some v) : (std Try.prog).stepS S (sLoad 30 (.pointer (some a))) k = k v := stepS_run hne fun w hw => run_sLoad (run_loadVar1 ag30 (h w hw))
theorem ld31 {a : Addr} {v : Value} {w : World} {K : Value → World → Prop} (h : w.cell? a = some v) : (std Try.prog).step (sLoad 31 (.pointer (some a))) w K = K v w := step_run (run_sLoad (run_loadVar1 ag31 h))
theorem sld31 {a : Addr} {v : Value} {S : World → Prop} {k : Value → Prop} (hne : ∃ w, S w) (h : ∀ w, S w → w.cell? a = some v) : (std Try.prog).stepS S (sLoad 31 (.pointer (some a))) k = k v := stepS_run hne fun w hw => run_sLoad (run_loadVar1 ag31 (h w hw))
theorem ld34 {a : Addr} {v : Value} {w : World} {K : Value → World → Prop} (h : w.cell? a = some v) : (std Try.prog).step (sLoad 34 (.pointer (some a))) w K = K v w := step_run (run_sLoad (run_loadVar1 ag34 h))
theorem sld34 {a : Addr} {v : Value} {S : World → Prop} {k : Value → Prop} (hne : ∃ w, S w) (h : ∀ w, S w → w.cell? a = some v) : (std Try.prog).stepS S (sLoad 34 (.pointer (some a))) k = k v := stepS_run hne fun w hw => run_sLoad (run_loadVar1 ag34 (h w hw))
theorem ld49 {a : Addr} {v : Value} {w : World} {K : Value → World → Prop} (h : w.cell? a = some v) : (std Try.prog).step (sLoad 49 (.pointer (some a))) w K = K v w := step_run (run_sLoad (run_loadVar1 ag49 h))
theorem sld49 {a : Addr} {v : Value} {S : World → Prop} {k : Value → Prop} (hne : ∃ w, S w) (h : ∀ w, S w → w.cell? a = some v) : (std Try.prog).stepS S (sLoad 49 (.pointer (some a))) k = k v := stepS_run hne fun w hw => run_sLoad (run_loadVar1 ag49 (h w hw))
theorem ld5 {a : Addr} {v : Value} {w : World} {K : Value → World → Prop} (h : w.cell? a = some v) : (std Try.prog).step (sLoad 5 (.pointer (some a))) w K = K v w := step_run (run_sLoad (run_loadVar1 ag5 h))
theorem sld5 {a : Addr} {v : Value} {S : World → Prop} {k : Value → Prop} (hne : ∃ w, S w) (h : ∀ w, S w → w.cell? a = some v) : (std Try.prog).stepS S (sLoad 5 (.pointer (some a))) k = k v := stepS_run hne fun w hw => run_sLoad (run_loadVar1 ag5 (h w hw))
theorem ld89 {a : Addr} {v : Value} {w : World} {K : Value → World → Prop} (h : w.cell? a = some v) : (std Try.prog).step (sLoad 89 (.pointer (some a))) w K = K v w := step_run (run_sLoad (run_loadVar1 ag89 h))
theorem sld89 {a : Addr} {v : Value} {S : World → Prop} {k : Value → Prop} (hne : ∃ w, S w) (h : ∀ w, S w → w.cell? a = some v) : (std Try.prog).stepS S (sLoad 89 (.pointer (some a))) k = k v := stepS_run hne fun w hw => run_sLoad (run_loadVar1 ag89 (h w hw))
theorem ld9 {a : Addr} {v : Value} {w : World} {K : Value → World → Prop} (h : w.cell? a = some v) : (std Try.prog).step (sLoad 9 (.pointer (some a))) w K = K v w := step_run (run_sLoad (run_loadVar1 ag9 h))
theorem sld9 {a : Addr} {v : Value} {S : World → Prop} {k : Value → Prop} (hne : ∃ w, S w) (h : ∀ w, S w → w.cell? a = some v) : (std Try.prog).stepS S (sLoad 9 (.pointer (some a))) k = k v := stepS_run hne fun w hw => run_sLoad (run_loadVar1 ag9 (h w hw))
theorem px_add {t : TypeId} {x y : Operand} {q : IntKind} {a b : Int}  {w : World} {K : Value → World → Prop} : (std Try.prog).step (sBin .add t x y (.int q a) (.int q b)) w K = K (.int q (q.wrap (a + b))) w := step_run (r_add)
theorem sx_add {t : TypeId} {x y : Operand} {q : IntKind} {a b : Int}  {S : World → Prop} {k : Value → Prop} (hne : ∃ w, S w) : (std Try.prog).stepS S (sBin .add t x y (.int q a) (.int q b)) k = k (.int q (q.wrap (a + b))) := stepS_run hne fun _ _ => r_add
theorem px_sub {t : TypeId} {x y : Operand} {q : IntKind} {a b : Int}  {w : World} {K : Value → World → Prop} : (std Try.prog).step (sBin .sub t x y (.int q a) (.int q b)) w K = K (.int q (q.wrap (a - b))) w := step_run (r_sub)
theorem sx_sub {t : TypeId} {x y : Operand} {q : IntKind} {a b : Int}  {S : World → Prop} {k : Value → Prop} (hne : ∃ w, S w) : (std Try.prog).stepS S (sBin .sub t x y (.int q a) (.int q b)) k = k (.int q (q.wrap (a - b))) := stepS_run hne fun _ _ => r_sub
theorem px_mul {t : TypeId} {x y : Operand} {q : IntKind} {a b : Int}  {w : World} {K : Value → World → Prop} : (std Try.prog).step (sBin .mul t x y (.int q a) (.int q b)) w K = K (.int q (q.wrap (a * b))) w := step_run (r_mul)
theorem sx_mul {t : TypeId} {x y : Operand} {q : IntKind} {a b : Int}  {S : World → Prop} {k : Value → Prop} (hne : ∃ w, S w) : (std Try.prog).stepS S (sBin .mul t x y (.int q a) (.int q b)) k = k (.int q (q.wrap (a * b))) := stepS_run hne fun _ _ => r_mul
theorem px_and {t : TypeId} {x y : Operand} {q : IntKind} {a b : Int}  {w : World} {K : Value → World → Prop} : (std Try.prog).step (sBin .and t x y (.int q a) (.int q b)) w K = K (.int q (bitOp .and q a b)) w := step_run (r_and)
theorem sx_and {t : TypeId} {x y : Operand} {q : IntKind} {a b : Int}  {S : World → Prop} {k : Value → Prop} (hne : ∃ w, S w) : (std Try.prog).stepS S (sBin .and t x y (.int q a) (.int q b)) k = k (.int q (bitOp .and q a b)) := stepS_run hne fun _ _ => r_and
theorem px_or {t : TypeId} {x y : Operand} {q : IntKind} {a b : Int}  {w : World} {K : Value → World → Prop} : (std Try.prog).step (sBin .or t x y (.int q a) (.int q b)) w K = K (.int q (bitOp .or q a b)) w := step_run (r_or)
theorem sx_or {t : TypeId} {x y : Operand} {q : IntKind} {a b : Int}  {S : World → Prop} {k : Value → Prop} (hne : ∃ w, S w) : (std Try.prog).stepS S (sBin .or t x y (.int q a) (.int q b)) k = k (.int q (bitOp .or q a b)) := stepS_run hne fun _ _ => r_or
theorem px_xor {t : TypeId} {x y : Operand} {q : IntKind} {a b : Int}  {w : World} {K : Value → World → Prop} : (std Try.prog).step (sBin .xor t x y (.int q a) (.int q b)) w K = K (.int q (bitOp .xor q a b)) w := step_run (r_xor)
theorem sx_xor {t : TypeId} {x y : Operand} {q : IntKind} {a b : Int}  {S : World → Prop} {k : Value → Prop} (hne : ∃ w, S w) : (std Try.prog).stepS S (sBin .xor t x y (.int q a) (.int q b)) k = k (.int q (bitOp .xor q a b)) := stepS_run hne fun _ _ => r_xor
theorem px_lss {t : TypeId} {x y : Operand} {q : IntKind} {a b : Int}  {w : World} {K : Value → World → Prop} : (std Try.prog).step (sBin .lss t x y (.int q a) (.int q b)) w K = K (.bool (decide (a < b))) w := step_run (r_lss)
theorem sx_lss {t : TypeId} {x y : Operand} {q : IntKind} {a b : Int}  {S : World → Prop} {k : Value → Prop} (hne : ∃ w, S w) : (std Try.prog).stepS S (sBin .lss t x y (.int q a) (.int q b)) k = k (.bool (decide (a < b))) := stepS_run hne fun _ _ => r_lss
theorem px_leq {t : TypeId} {x y : Operand} {q : IntKind} {a b : Int}  {w : World} {K : Value → World → Prop} : (std Try.prog).step (sBin .leq t x y (.int q a) (.int q b)) w K = K (.bool (decide (a ≤ b))) w := step_run (r_leq)
theorem sx_leq {t : TypeId} {x y : Operand} {q : IntKind} {a b : Int}  {S : World → Prop} {k : Value → Prop} (hne : ∃ w, S w) : (std Try.prog).stepS S (sBin .leq t x y (.int q a) (.int q b)) k = k (.bool (decide (a ≤ b))) := stepS_run hne fun _ _ => r_leq
theorem px_gtr {t : TypeId} {x y : Operand} {q : IntKind} {a b : Int}  {w : World} {K : Value → World → Prop} : (std Try.prog).step (sBin .gtr t x y (.int q a) (.int q b)) w K = K (.bool (decide (b < a))) w := step_run (r_gtr)
theorem sx_gtr {t : TypeId} {x y : Operand} {q : IntKind} {a b : Int}  {S : World → Prop} {k : Value → Prop} (hne : ∃ w, S w) : (std Try.prog).stepS S (sBin .gtr t x y (.int q a) (.int q b)) k = k (.bool (decide (b < a))) := stepS_run hne fun _ _ => r_gtr
theorem px_geq {t : TypeId} {x y : Operand} {q : IntKind} {a b : Int}  {w : World} {K : Value → World → Prop} : (std Try.prog).step (sBin .geq t x y (.int q a) (.int q b)) w K = K (.bool (decide (b ≤ a))) w := step_run (r_geq)
theorem sx_geq {t : TypeId} {x y : Operand} {q : IntKind} {a b : Int}  {S : World → Prop} {k : Value → Prop} (hne : ∃ w, S w) : (std Try.prog).stepS S (sBin .geq t x y (.int q a) (.int q b)) k = k (.bool (decide (b ≤ a))) := stepS_run hne fun _ _ => r_geq
theorem px_eql {t : TypeId} {x y : Operand} {q : IntKind} {a b : Int}  {w : World} {K : Value → World → Prop} : (std Try.prog).step (sBin .eql t x y (.int q a) (.int q b)) w K = K (.bool (decide (a = b))) w := step_run (r_eql)
theorem sx_eql {t : TypeId} {x y : Operand} {q : IntKind} {a b : Int}  {S : World → Prop} {k : Value → Prop} (hne : ∃ w, S w) : (std Try.prog).stepS S (sBin .eql t x y (.int q a) (.int q b)) k = k (.bool (decide (a = b))) := stepS_run hne fun _ _ => r_eql
theorem px_neq {t : TypeId} {x y : Operand} {q : IntKind} {a b : Int}  {w : World} {K : Value → World → Prop} : (std Try.prog).step (sBin .neq t x y (.int q a) (.int q b)) w K = K (.bool (decide (a ≠ b))) w := step_run (r_neq)
theorem sx_neq {t : TypeId} {x y : Operand} {q : IntKind} {a b : Int}  {S : World → Prop} {k : Value → Prop} (hne : ∃ w, S w) : (std Try.prog).stepS S (sBin .neq t x y (.int q a) (.int q b)) k = k (.bool (decide (a ≠ b))) := stepS_run hne fun _ _ => r_neq
theorem px_quo {t : TypeId} {x y : Operand} {q : IntKind} {a b : Int} (h : b ≠ 0) {w : World} {K : Value → World → Prop} : (std Try.prog).step (sBin .quo t x y (.int q a) (.int q b)) w K = K (.int q (q.wrap (a.tdiv b))) w := step_run (r_quo h)
theorem sx_quo {t : TypeId} {x y : Operand} {q : IntKind} {a b : Int} (h : b ≠ 0) {S : World → Prop} {k : Value → Prop} (hne : ∃ w, S w) : (std Try.prog).stepS S (sBin .quo t x y (.int q a) (.int q b)) k = k (.int q (q.wrap (a.tdiv b))) := stepS_run hne fun _ _ => r_quo h
theorem px_rem {t : TypeId} {x y : Operand} {q : IntKind} {a b : Int} (h : b ≠ 0) {w : World} {K : Value → World → Prop} : (std Try.prog).step (sBin .rem t x y (.int q a) (.int q b)) w K = K (.int q (a.tmod b)) w := step_run (r_rem h)
theorem sx_rem {t : TypeId} {x y : Operand} {q : IntKind} {a b : Int} (h : b ≠ 0) {S : World → Prop} {k : Value → Prop} (hne : ∃ w, S w) : (std Try.prog).stepS S (sBin .rem t x y (.int q a) (.int q b)) k = k (.int q (a.tmod b)) := stepS_run hne fun _ _ => r_rem h
theorem px_shl {t : TypeId} {x y : Operand} {q q' : IntKind} {a b : Int} (h : ¬ b < 0) {w : World} {K : Value → World → Prop} : (std Try.prog).step (sBin .shl t x y (.int q a) (.int q' b)) w K = K (.int q (q.wrap (a * 2 ^ (min b.toNat q.bits)))) w := step_run (r_shl h)
theorem sx_shl {t : TypeId} {x y : Operand} {q q' : IntKind} {a b : Int} (h : ¬ b < 0) {S : World → Prop} {k : Value → Prop} (hne : ∃ w, S w) : (std Try.prog).stepS S (sBin .shl t x y (.int q a) (.int q' b)) k = k (.int q (q.wrap (a * 2 ^ (min b.toNat q.bits)))) := stepS_run hne fun _ _ => r_shl h
theorem px_shr {t : TypeId} {x y : Operand} {q q' : IntKind} {a b : Int} (h : ¬ b < 0) {w : World} {K : Value → World → Prop} : (std Try.prog).step (sBin .shr t x y (.int q a) (.int q' b)) w K = K (.int q (a.fdiv (2 ^ (min b.toNat q.bits)))) w := step_run (r_shr h)
theorem sx_shr {t : TypeId} {x y : Operand} {q q' : IntKind} {a b : Int} (h : ¬ b < 0) {S : World → Prop} {k : Value → Prop} (hne : ∃ w, S w) : (std Try.prog).stepS S (sBin .shr t x y (.int q a) (.int q' b)) k = k (.int q (a.fdiv (2 ^ (min b.toNat q.bits)))) := stepS_run hne fun _ _ => r_shr h
theorem px_seql {t : TypeId} {x y : Operand} {a b : ByteArray}  {w : World} {K : Value → World → Prop} : (std Try.prog).step (sBin .eql t x y (.string a) (.string b)) w K = K (.bool (decide (a = b))) w := step_run (r_seql)
theorem sx_seql {t : TypeId} {x y : Operand} {a b : ByteArray}  {S : World → Prop} {k : Value → Prop} (hne : ∃ w, S w) : (std Try.prog).stepS S (sBin .eql t x y (.string a) (.string b)) k = k (.bool (decide (a = b))) := stepS_run hne fun _ _ => r_seql
theorem px_sneq {t : TypeId} {x y : Operand} {a b : ByteArray}  {w : World} {K : Value → World → Prop} : (std Try.prog).step (sBin .neq t x y (.string a) (.string b)) w K = K (.bool (!decide (a = b))) w := step_run (r_sneq)
theorem sx_sneq {t : TypeId} {x y : Operand} {a b : ByteArray}  {S : World → Prop} {k : Value → Prop} (hne : ∃ w, S w) : (std Try.prog).stepS S (sBin .neq t x y (.string a) (.string b)) k = k (.bool (!decide (a = b))) := stepS_run hne fun _ _ => r_sneq
theorem px_sadd {t : TypeId} {x y : Operand} {a b : ByteArray} (h : a.size + b.size ≤ 9223372036854775807) {w : World} {K : Value → World → Prop} : (std Try.prog).step (sBin .add t x y (.string a) (.string b)) w K = K (.string (a ++ b)) w := step_run (r_sadd h)
theorem sx_sadd {t : TypeId} {x y : Operand} {a b : ByteArray} (h : a.size + b.size ≤ 9223372036854775807) {S : World → Prop} {k : Value → Prop} (hne : ∃ w, S w) : (std Try.prog).stepS S (sBin .add t x y (.string a) (.string b)) k = k (.string (a ++ b)) := stepS_run hne fun _ _ => r_sadd h
theorem px_not {b : Bool}  {w : World} {K : Value → World → Prop} : (std Try.prog).step (sUn .not (.bool b)) w K = K (.bool (!b)) w := step_run (r_not)
theorem sx_not {b : Bool}  {S : World → Prop} {k : Value → Prop} (hne : ∃ w, S w) : (std Try.prog).stepS S (sUn .not (.bool b)) k = k (.bool (!b)) := stepS_run hne fun _ _ => r_not
theorem px_neg {q : IntKind} {a : Int}  {w : World} {K : Value → World → Prop} : (std Try.prog).step (sUn .neg (.int q a)) w K = K (.int q (q.wrap (0 - a))) w := step_run (r_neg)
theorem sx_neg {q : IntKind} {a : Int}  {S : World → Prop} {k : Value → Prop} (hne : ∃ w, S w) : (std Try.prog).stepS S (sUn .neg (.int q a)) k = k (.int q (q.wrap (0 - a))) := stepS_run hne fun _ _ => r_neg
theorem px_inv {q : IntKind} {a : Int}  {w : World} {K : Value → World → Prop} : (std Try.prog).step (sUn .xor (.int q a)) w K = K (.int q (bitOp .xor q (if q.signed then -1 else q.max) a)) w := step_run (r_inv)
theorem sx_inv {q : IntKind} {a : Int}  {S : World → Prop} {k : Value → Prop} (hne : ∃ w, S w) : (std Try.prog).stepS S (sUn .xor (.int q a)) k = k (.int q (bitOp .xor q (if q.signed then -1 else q.max) a)) := stepS_run hne fun _ _ => r_inv
theorem px_nilc {a : Addr}  {w : World} {K : Value → World → Prop} : (std Try.prog).step (sNil (.pointer (some a))) w K = K (.pointer (some a)) w := step_run (r_nil)
theorem sx_nilc {a : Addr}  {S : World → Prop} {k : Value → Prop} (hne : ∃ w, S w) : (std Try.prog).stepS S (sNil (.pointer (some a))) k = k (.pointer (some a)) := stepS_run hne fun _ _ => r_nil
theorem px_ext20 {a b : Value}  {w : World} {K : Value → World → Prop} : (std Try.prog).step (sExtract (.tuple #[a, b]) 0) w K = K (a) w := step_run (r_ext20)
theorem sx_ext20 {a b : Value}  {S : World → Prop} {k : Value → Prop} (hne : ∃ w, S w) : (std Try.prog).stepS S (sExtract (.tuple #[a, b]) 0) k = k (a) := stepS_run hne fun _ _ => r_ext20
theorem px_ext21 {a b : Value}  {w : World} {K : Value → World → Prop} : (std Try.prog).step (sExtract (.tuple #[a, b]) 1) w K = K (b) w := step_run (r_ext21)
theorem sx_ext21 {a b : Value}  {S : World → Prop} {k : Value → Prop} (hne : ∃ w, S w) : (std Try.prog).stepS S (sExtract (.tuple #[a, b]) 1) k = k (b) := stepS_run hne fun _ _ => r_ext21
theorem px_ext30 {a b c : Value}  {w : World} {K : Value → World → Prop} : (std Try.prog).step (sExtract (.tuple #[a, b, c]) 0) w K = K (a) w := step_run (r_ext30)
theorem sx_ext30 {a b c : Value}  {S : World → Prop} {k : Value → Prop} (hne : ∃ w, S w) : (std Try.prog).stepS S (sExtract (.tuple #[a, b, c]) 0) k = k (a) := stepS_run hne fun _ _ => r_ext30
theorem px_ext31 {a b c : Value}  {w : World} {K : Value → World → Prop} : (std Try.prog).step (sExtract (.tuple #[a, b, c]) 1) w K = K (b) w := step_run (r_ext31)
theorem sx_ext31 {a b c : Value}  {S : World → Prop} {k : Value → Prop} (hne : ∃ w, S w) : (std Try.prog).stepS S (sExtract (.tuple #[a, b, c]) 1) k = k (b) := stepS_run hne fun _ _ => r_ext31
theorem px_ext32 {a b c : Value}  {w : World} {K : Value → World → Prop} : (std Try.prog).step (sExtract (.tuple #[a, b, c]) 2) w K = K (c) w := step_run (r_ext32)
theorem sx_ext32 {a b c : Value}  {S : World → Prop} {k : Value → Prop} (hne : ∃ w, S w) : (std Try.prog).stepS S (sExtract (.tuple #[a, b, c]) 2) k = k (c) := stepS_run hne fun _ _ => r_ext32
theorem px_min {ats : Array TypeId} {ty : TypeId} {c : List Bool} {q : IntKind} {a b : Int}  {w : World} {K : Value → World → Prop} : (std Try.prog).step (sBuiltin .min ats ty c [.int q a, .int q b]) w K = K (.int q (if b < a then b else a)) w := step_run (r_min)
theorem sx_min {ats : Array TypeId} {ty : TypeId} {c : List Bool} {q : IntKind} {a b : Int}  {S : World → Prop} {k : Value → Prop} (hne : ∃ w, S w) : (std Try.prog).stepS S (sBuiltin .min ats ty c [.int q a, .int q b]) k = k (.int q (if b < a then b else a)) := stepS_run hne fun _ _ => r_min
theorem px_max {ats : Array TypeId} {ty : TypeId} {c : List Bool} {q : IntKind} {a b : Int}  {w : World} {K : Value → World → Prop} : (std Try.prog).step (sBuiltin .max ats ty c [.int q a, .int q b]) w K = K (.int q (if a < b then b else a)) w := step_run (r_max)
theorem sx_max {ats : Array TypeId} {ty : TypeId} {c : List Bool} {q : IntKind} {a b : Int}  {S : World → Prop} {k : Value → Prop} (hne : ∃ w, S w) : (std Try.prog).stepS S (sBuiltin .max ats ty c [.int q a, .int q b]) k = k (.int q (if a < b then b else a)) := stepS_run hne fun _ _ => r_max
theorem px_beql4 {x y : Operand} {a b : Bool}  {w : World} {K : Value → World → Prop} : (std Try.prog).step (sBin .eql 4 x y (.bool a) (.bool b)) w K = K (.bool (a == b)) w := step_run (r_beql u4)
theorem sx_beql4 {x y : Operand} {a b : Bool}  {S : World → Prop} {k : Value → Prop} (hne : ∃ w, S w) : (std Try.prog).stepS S (sBin .eql 4 x y (.bool a) (.bool b)) k = k (.bool (a == b)) := stepS_run hne fun _ _ => r_beql u4
theorem px_peql60 {x y : Operand} {a : Addr}  {w : World} {K : Value → World → Prop} : (std Try.prog).step (sBin .eql 60 x y (.pointer (some a)) (.pointer none)) w K = K (.bool false) w := step_run (rpeql60)
theorem sx_peql60 {x y : Operand} {a : Addr}  {S : World → Prop} {k : Value → Prop} (hne : ∃ w, S w) : (std Try.prog).stepS S (sBin .eql 60 x y (.pointer (some a)) (.pointer none)) k = k (.bool false) := stepS_run hne fun _ _ => rpeql60
theorem px_neql60 {x y : Operand}  {w : World} {K : Value → World → Prop} : (std Try.prog).step (sBin .eql 60 x y (.pointer none) (.pointer none)) w K = K (.bool true) w := step_run (rneql60)
theorem sx_neql60 {x y : Operand}  {S : World → Prop} {k : Value → Prop} (hne : ∃ w, S w) : (std Try.prog).stepS S (sBin .eql 60 x y (.pointer none) (.pointer none)) k = k (.bool true) := stepS_run hne fun _ _ => rneql60
theorem px_peql76 {x y : Operand} {a : Addr}  {w : World} {K : Value → World → Prop} : (std Try.prog).step (sBin .eql 76 x y (.pointer (some a)) (.pointer none)) w K = K (.bool false) w := step_run (rpeql76)
theorem sx_peql76 {x y : Operand} {a : Addr}  {S : World → Prop} {k : Value → Prop} (hne : ∃ w, S w) : (std Try.prog).stepS S (sBin .eql 76 x y (.pointer (some a)) (.pointer none)) k = k (.bool false) := stepS_run hne fun _ _ => rpeql76
theorem px_neql76 {x y : Operand}  {w : World} {K : Value → World → Prop} : (std Try.prog).step (sBin .eql 76 x y (.pointer none) (.pointer none)) w K = K (.bool true) w := step_run (rneql76)
theorem sx_neql76 {x y : Operand}  {S : World → Prop} {k : Value → Prop} (hne : ∃ w, S w) : (std Try.prog).stepS S (sBin .eql 76 x y (.pointer none) (.pointer none)) k = k (.bool true) := stepS_run hne fun _ _ => rneql76
theorem px_len22 {ty : TypeId} {c : List Bool} {A : Option Addr} {n m : Nat}  {w : World} {K : Value → World → Prop} : (std Try.prog).step (sBuiltin .len #[22] ty c [.slice A n m]) w K = K (.int .i64 n) w := step_run (r_lens u22)
theorem sx_len22 {ty : TypeId} {c : List Bool} {A : Option Addr} {n m : Nat}  {S : World → Prop} {k : Value → Prop} (hne : ∃ w, S w) : (std Try.prog).stepS S (sBuiltin .len #[22] ty c [.slice A n m]) k = k (.int .i64 n) := stepS_run hne fun _ _ => r_lens u22
theorem px_len30 {ty : TypeId} {c : List Bool} {A : Option Addr} {n m : Nat}  {w : World} {K : Value → World → Prop} : (std Try.prog).step (sBuiltin .len #[30] ty c [.slice A n m]) w K = K (.int .i64 n) w := step_run (r_lens u30)
theorem sx_len30 {ty : TypeId} {c : List Bool} {A : Option Addr} {n m : Nat}  {S : World → Prop} {k : Value → Prop} (hne : ∃ w, S w) : (std Try.prog).stepS S (sBuiltin .len #[30] ty c [.slice A n m]) k = k (.int .i64 n) := stepS_run hne fun _ _ => r_lens u30
theorem px_len31 {ty : TypeId} {c : List Bool} {A : Option Addr} {n m : Nat}  {w : World} {K : Value → World → Prop} : (std Try.prog).step (sBuiltin .len #[31] ty c [.slice A n m]) w K = K (.int .i64 n) w := step_run (r_lens u31)
theorem sx_len31 {ty : TypeId} {c : List Bool} {A : Option Addr} {n m : Nat}  {S : World → Prop} {k : Value → Prop} (hne : ∃ w, S w) : (std Try.prog).stepS S (sBuiltin .len #[31] ty c [.slice A n m]) k = k (.int .i64 n) := stepS_run hne fun _ _ => r_lens u31
theorem px_len9 {ty : TypeId} {c : List Bool} {s : ByteArray}  {w : World} {K : Value → World → Prop} : (std Try.prog).step (sBuiltin .len #[9] ty c [.string s]) w K = K (.int .i64 s.size) w := step_run (r_lenstr u9)
theorem sx_len9 {ty : TypeId} {c : List Bool} {s : ByteArray}  {S : World → Prop} {k : Value → Prop} (hne : ∃ w, S w) : (std Try.prog).stepS S (sBuiltin .len #[9] ty c [.string s]) k = k (.int .i64 s.size) := stepS_run hne fun _ _ => r_lenstr u9
theorem px_cv24_25 {q : IntKind} {n : Int}  {w : World} {K : Value → World → Prop} : (std Try.prog).step (sConv 24 25 (.int q n)) w K = K (.int .u64 (IntKind.wrap .u64 n)) w := step_run (r_conv u24 u25)
theorem sx_cv24_25 {q : IntKind} {n : Int}  {S : World → Prop} {k : Value → Prop} (hne : ∃ w, S w) : (std Try.prog).stepS S (sConv 24 25 (.int q n)) k = k (.int .u64 (IntKind.wrap .u64 n)) := stepS_run hne fun _ _ => r_conv u24 u25
theorem px_cv24_5 {q : IntKind} {n : Int}  {w : World} {K : Value → World → Prop} : (std Try.prog).step (sConv 24 5 (.int q n)) w K = K (.int .u8 (IntKind.wrap .u8 n)) w := step_run (r_conv u24 u5)
theorem sx_cv24_5 {q : IntKind} {n : Int}  {S : World → Prop} {k : Value → Prop} (hne : ∃ w, S w) : (std Try.prog).stepS S (sConv 24 5 (.int q n)) k = k (.int .u8 (IntKind.wrap .u8 n)) := stepS_run hne fun _ _ => r_conv u24 u5
theorem px_cv25_24 {q : IntKind} {n : Int}  {w : World} {K : Value → World → Prop} : (std Try.prog).step (sConv 25 24 (.int q n)) w K = K (.int .i64 (IntKind.wrap .i64 n)) w := step_run (r_conv u25 u24)
theorem sx_cv25_24 {q : IntKind} {n : Int}  {S : World → Prop} {k : Value → Prop} (hne : ∃ w, S w) : (std Try.prog).stepS S (sConv 25 24 (.int q n)) k = k (.int .i64 (IntKind.wrap .i64 n)) := stepS_run hne fun _ _ => r_conv u25 u24
theorem px_cv25_27 {q : IntKind} {n : Int}  {w : World} {K : Value → World → Prop} : (std Try.prog).step (sConv 25 27 (.int q n)) w K = K (.int .i64 (IntKind.wrap .i64 n)) w := step_run (r_conv u25 u27)
theorem sx_cv25_27 {q : IntKind} {n : Int}  {S : World → Prop} {k : Value → Prop} (hne : ∃ w, S w) : (std Try.prog).stepS S (sConv 25 27 (.int q n)) k = k (.int .i64 (IntKind.wrap .i64 n)) := stepS_run hne fun _ _ => r_conv u25 u27
theorem px_cv25_3 {q : IntKind} {n : Int}  {w : World} {K : Value → World → Prop} : (std Try.prog).step (sConv 25 3 (.int q n)) w K = K (.int .i64 (IntKind.wrap .i64 n)) w := step_run (r_conv u25 u3)
theorem sx_cv25_3 {q : IntKind} {n : Int}  {S : World → Prop} {k : Value → Prop} (hne : ∃ w, S w) : (std Try.prog).stepS S (sConv 25 3 (.int q n)) k = k (.int .i64 (IntKind.wrap .i64 n)) := stepS_run hne fun _ _ => r_conv u25 u3
theorem px_cv25_49 {q : IntKind} {n : Int}  {w : World} {K : Value → World → Prop} : (std Try.prog).step (sConv 25 49 (.int q n)) w K = K (.int .i64 (IntKind.wrap .i64 n)) w := step_run (r_conv u25 u49)
theorem sx_cv25_49 {q : IntKind} {n : Int}  {S : World → Prop} {k : Value → Prop} (hne : ∃ w, S w) : (std Try.prog).stepS S (sConv 25 49 (.int q n)) k = k (.int .i64 (IntKind.wrap .i64 n)) := stepS_run hne fun _ _ => r_conv u25 u49
theorem px_cv25_5 {q : IntKind} {n : Int}  {w : World} {K : Value → World → Prop} : (std Try.prog).step (sConv 25 5 (.int q n)) w K = K (.int .u8 (IntKind.wrap .u8 n)) w := step_run (r_conv u25 u5)
theorem sx_cv25_5 {q : IntKind} {n : Int}  {S : World → Prop} {k : Value → Prop} (hne : ∃ w, S w) : (std Try.prog).stepS S (sConv 25 5 (.int q n)) k = k (.int .u8 (IntKind.wrap .u8 n)) := stepS_run hne fun _ _ => r_conv u25 u5
theorem px_cv25_70 {q : IntKind} {n : Int}  {w : World} {K : Value → World → Prop} : (std Try.prog).step (sConv 25 70 (.int q n)) w K = K (.int .u16 (IntKind.wrap .u16 n)) w := step_run (r_conv u25 u70)
theorem sx_cv25_70 {q : IntKind} {n : Int}  {S : World → Prop} {k : Value → Prop} (hne : ∃ w, S w) : (std Try.prog).stepS S (sConv 25 70 (.int q n)) k = k (.int .u16 (IntKind.wrap .u16 n)) := stepS_run hne fun _ _ => r_conv u25 u70
theorem px_cv25_89 {q : IntKind} {n : Int}  {w : World} {K : Value → World → Prop} : (std Try.prog).step (sConv 25 89 (.int q n)) w K = K (.int .u32 (IntKind.wrap .u32 n)) w := step_run (r_conv u25 u89)
theorem sx_cv25_89 {q : IntKind} {n : Int}  {S : World → Prop} {k : Value → Prop} (hne : ∃ w, S w) : (std Try.prog).stepS S (sConv 25 89 (.int q n)) k = k (.int .u32 (IntKind.wrap .u32 n)) := stepS_run hne fun _ _ => r_conv u25 u89
theorem px_cv27_25 {q : IntKind} {n : Int}  {w : World} {K : Value → World → Prop} : (std Try.prog).step (sConv 27 25 (.int q n)) w K = K (.int .u64 (IntKind.wrap .u64 n)) w := step_run (r_conv u27 u25)
theorem sx_cv27_25 {q : IntKind} {n : Int}  {S : World → Prop} {k : Value → Prop} (hne : ∃ w, S w) : (std Try.prog).stepS S (sConv 27 25 (.int q n)) k = k (.int .u64 (IntKind.wrap .u64 n)) := stepS_run hne fun _ _ => r_conv u27 u25
theorem px_cv27_5 {q : IntKind} {n : Int}  {w : World} {K : Value → World → Prop} : (std Try.prog).step (sConv 27 5 (.int q n)) w K = K (.int .u8 (IntKind.wrap .u8 n)) w := step_run (r_conv u27 u5)
theorem sx_cv27_5 {q : IntKind} {n : Int}  {S : World → Prop} {k : Value → Prop} (hne : ∃ w, S w) : (std Try.prog).stepS S (sConv 27 5 (.int q n)) k = k (.int .u8 (IntKind.wrap .u8 n)) := stepS_run hne fun _ _ => r_conv u27 u5
theorem px_cv3_25 {q : IntKind} {n : Int}  {w : World} {K : Value → World → Prop} : (std Try.prog).step (sConv 3 25 (.int q n)) w K = K (.int .u64 (IntKind.wrap .u64 n)) w := step_run (r_conv u3 u25)
theorem sx_cv3_25 {q : IntKind} {n : Int}  {S : World → Prop} {k : Value → Prop} (hne : ∃ w, S w) : (std Try.prog).stepS S (sConv 3 25 (.int q n)) k = k (.int .u64 (IntKind.wrap .u64 n)) := stepS_run hne fun _ _ => r_conv u3 u25
theorem px_cv3_5 {q : IntKind} {n : Int}  {w : World} {K : Value → World → Prop} : (std Try.prog).step (sConv 3 5 (.int q n)) w K = K (.int .u8 (IntKind.wrap .u8 n)) w := step_run (r_conv u3 u5)
theorem sx_cv3_5 {q : IntKind} {n : Int}  {S : World → Prop} {k : Value → Prop} (hne : ∃ w, S w) : (std Try.prog).stepS S (sConv 3 5 (.int q n)) k = k (.int .u8 (IntKind.wrap .u8 n)) := stepS_run hne fun _ _ => r_conv u3 u5
theorem px_cv3_70 {q : IntKind} {n : Int}  {w : World} {K : Value → World → Prop} : (std Try.prog).step (sConv 3 70 (.int q n)) w K = K (.int .u16 (IntKind.wrap .u16 n)) w := step_run (r_conv u3 u70)
theorem sx_cv3_70 {q : IntKind} {n : Int}  {S : World → Prop} {k : Value → Prop} (hne : ∃ w, S w) : (std Try.prog).stepS S (sConv 3 70 (.int q n)) k = k (.int .u16 (IntKind.wrap .u16 n)) := stepS_run hne fun _ _ => r_conv u3 u70
theorem px_cv3_89 {q : IntKind} {n : Int}  {w : World} {K : Value → World → Prop} : (std Try.prog).step (sConv 3 89 (.int q n)) w K = K (.int .u32 (IntKind.wrap .u32 n)) w := step_run (r_conv u3 u89)
theorem sx_cv3_89 {q : IntKind} {n : Int}  {S : World → Prop} {k : Value → Prop} (hne : ∃ w, S w) : (std Try.prog).stepS S (sConv 3 89 (.int q n)) k = k (.int .u32 (IntKind.wrap .u32 n)) := stepS_run hne fun _ _ => r_conv u3 u89
theorem px_cv49_25 {q : IntKind} {n : Int}  {w : World} {K : Value → World → Prop} : (std Try.prog).step (sConv 49 25 (.int q n)) w K = K (.int .u64 (IntKind.wrap .u64 n)) w := step_run (r_conv u49 u25)
theorem sx_cv49_25 {q : IntKind} {n : Int}  {S : World → Prop} {k : Value → Prop} (hne : ∃ w, S w) : (std Try.prog).stepS S (sConv 49 25 (.int q n)) k = k (.int .u64 (IntKind.wrap .u64 n)) := stepS_run hne fun _ _ => r_conv u49 u25
theorem px_cv49_5 {q : IntKind} {n : Int}  {w : World} {K : Value → World → Prop} : (std Try.prog).step (sConv 49 5 (.int q n)) w K = K (.int .u8 (IntKind.wrap .u8 n)) w := step_run (r_conv u49 u5)
theorem sx_cv49_5 {q : IntKind} {n : Int}  {S : World → Prop} {k : Value → Prop} (hne : ∃ w, S w) : (std Try.prog).stepS S (sConv 49 5 (.int q n)) k = k (.int .u8 (IntKind.wrap .u8 n)) := stepS_run hne fun _ _ => r_conv u49 u5
theorem px_cv5_24 {q : IntKind} {n : Int}  {w : World} {K : Value → World → Prop} : (std Try.prog).step (sConv 5 24 (.int q n)) w K = K (.int .i64 (IntKind.wrap .i64 n)) w := step_run (r_conv u5 u24)
theorem sx_cv5_24 {q : IntKind} {n : Int}  {S : World → Prop} {k : Value → Prop} (hne : ∃ w, S w) : (std Try.prog).stepS S (sConv 5 24 (.int q n)) k = k (.int .i64 (IntKind.wrap .i64 n)) := stepS_run hne fun _ _ => r_conv u5 u24
theorem px_cv5_25 {q : IntKind} {n : Int}  {w : World} {K : Value → World → Prop} : (std Try.prog).step (sConv 5 25 (.int q n)) w K = K (.int .u64 (IntKind.wrap .u64 n)) w := step_run (r_conv u5 u25)
theorem sx_cv5_25 {q : IntKind} {n : Int}  {S : World → Prop} {k : Value → Prop} (hne : ∃ w, S w) : (std Try.prog).stepS S (sConv 5 25 (.int q n)) k = k (.int .u64 (IntKind.wrap .u64 n)) := stepS_run hne fun _ _ => r_conv u5 u25
theorem px_cv5_27 {q : IntKind} {n : Int}  {w : World} {K : Value → World → Prop} : (std Try.prog).step (sConv 5 27 (.int q n)) w K = K (.int .i64 (IntKind.wrap .i64 n)) w := step_run (r_conv u5 u27)
theorem sx_cv5_27 {q : IntKind} {n : Int}  {S : World → Prop} {k : Value → Prop} (hne : ∃ w, S w) : (std Try.prog).stepS S (sConv 5 27 (.int q n)) k = k (.int .i64 (IntKind.wrap .i64 n)) := stepS_run hne fun _ _ => r_conv u5 u27
theorem px_cv5_3 {q : IntKind} {n : Int}  {w : World} {K : Value → World → Prop} : (std Try.prog).step (sConv 5 3 (.int q n)) w K = K (.int .i64 (IntKind.wrap .i64 n)) w := step_run (r_conv u5 u3)
theorem sx_cv5_3 {q : IntKind} {n : Int}  {S : World → Prop} {k : Value → Prop} (hne : ∃ w, S w) : (std Try.prog).stepS S (sConv 5 3 (.int q n)) k = k (.int .i64 (IntKind.wrap .i64 n)) := stepS_run hne fun _ _ => r_conv u5 u3
theorem px_cv5_49 {q : IntKind} {n : Int}  {w : World} {K : Value → World → Prop} : (std Try.prog).step (sConv 5 49 (.int q n)) w K = K (.int .i64 (IntKind.wrap .i64 n)) w := step_run (r_conv u5 u49)
theorem sx_cv5_49 {q : IntKind} {n : Int}  {S : World → Prop} {k : Value → Prop} (hne : ∃ w, S w) : (std Try.prog).stepS S (sConv 5 49 (.int q n)) k = k (.int .i64 (IntKind.wrap .i64 n)) := stepS_run hne fun _ _ => r_conv u5 u49
theorem px_cv5_89 {q : IntKind} {n : Int}  {w : World} {K : Value → World → Prop} : (std Try.prog).step (sConv 5 89 (.int q n)) w K = K (.int .u32 (IntKind.wrap .u32 n)) w := step_run (r_conv u5 u89)
theorem sx_cv5_89 {q : IntKind} {n : Int}  {S : World → Prop} {k : Value → Prop} (hne : ∃ w, S w) : (std Try.prog).stepS S (sConv 5 89 (.int q n)) k = k (.int .u32 (IntKind.wrap .u32 n)) := stepS_run hne fun _ _ => r_conv u5 u89
theorem px_cv70_25 {q : IntKind} {n : Int}  {w : World} {K : Value → World → Prop} : (std Try.prog).step (sConv 70 25 (.int q n)) w K = K (.int .u64 (IntKind.wrap .u64 n)) w := step_run (r_conv u70 u25)
theorem sx_cv70_25 {q : IntKind} {n : Int}  {S : World → Prop} {k : Value → Prop} (hne : ∃ w, S w) : (std Try.prog).stepS S (sConv 70 25 (.int q n)) k = k (.int .u64 (IntKind.wrap .u64 n)) := stepS_run hne fun _ _ => r_conv u70 u25
theorem px_cv70_3 {q : IntKind} {n : Int}  {w : World} {K : Value → World → Prop} : (std Try.prog).step (sConv 70 3 (.int q n)) w K = K (.int .i64 (IntKind.wrap .i64 n)) w := step_run (r_conv u70 u3)
theorem sx_cv70_3 {q : IntKind} {n : Int}  {S : World → Prop} {k : Value → Prop} (hne : ∃ w, S w) : (std Try.prog).stepS S (sConv 70 3 (.int q n)) k = k (.int .i64 (IntKind.wrap .i64 n)) := stepS_run hne fun _ _ => r_conv u70 u3
theorem px_cv89_25 {q : IntKind} {n : Int}  {w : World} {K : Value → World → Prop} : (std Try.prog).step (sConv 89 25 (.int q n)) w K = K (.int .u64 (IntKind.wrap .u64 n)) w := step_run (r_conv u89 u25)
theorem sx_cv89_25 {q : IntKind} {n : Int}  {S : World → Prop} {k : Value → Prop} (hne : ∃ w, S w) : (std Try.prog).stepS S (sConv 89 25 (.int q n)) k = k (.int .u64 (IntKind.wrap .u64 n)) := stepS_run hne fun _ _ => r_conv u89 u25
theorem px_cv89_3 {q : IntKind} {n : Int}  {w : World} {K : Value → World → Prop} : (std Try.prog).step (sConv 89 3 (.int q n)) w K = K (.int .i64 (IntKind.wrap .i64 n)) w := step_run (r_conv u89 u3)
theorem sx_cv89_3 {q : IntKind} {n : Int}  {S : World → Prop} {k : Value → Prop} (hne : ∃ w, S w) : (std Try.prog).stepS S (sConv 89 3 (.int q n)) k = k (.int .i64 (IntKind.wrap .i64 n)) := stepS_run hne fun _ _ => r_conv u89 u3
theorem px_cv89_5 {q : IntKind} {n : Int}  {w : World} {K : Value → World → Prop} : (std Try.prog).step (sConv 89 5 (.int q n)) w K = K (.int .u8 (IntKind.wrap .u8 n)) w := step_run (r_conv u89 u5)
theorem sx_cv89_5 {q : IntKind} {n : Int}  {S : World → Prop} {k : Value → Prop} (hne : ∃ w, S w) : (std Try.prog).stepS S (sConv 89 5 (.int q n)) k = k (.int .u8 (IntKind.wrap .u8 n)) := stepS_run hne fun _ _ => r_conv u89 u5
theorem px_fa108_0 {a : Addr}  {w : World} {K : Value → World → Prop} : (std Try.prog).step (sFieldAddr 108 (.pointer (some a)) 0) w K = K (.pointer (some (a))) w := step_run (rfa108_0)
theorem sx_fa108_0 {a : Addr}  {S : World → Prop} {k : Value → Prop} (hne : ∃ w, S w) : (std Try.prog).stepS S (sFieldAddr 108 (.pointer (some a)) 0) k = k (.pointer (some (a))) := stepS_run hne fun _ _ => rfa108_0
theorem px_fa29_0 {a : Addr}  {w : World} {K : Value → World → Prop} : (std Try.prog).step (sFieldAddr 29 (.pointer (some a)) 0) w K = K (.pointer (some (a))) w := step_run (rfa29_0)
theorem sx_fa29_0 {a : Addr}  {S : World → Prop} {k : Value → Prop} (hne : ∃ w, S w) : (std Try.prog).stepS S (sFieldAddr 29 (.pointer (some a)) 0) k = k (.pointer (some (a))) := stepS_run hne fun _ _ => rfa29_0
theorem px_fa29_1 {a : Addr}  {w : World} {K : Value → World → Prop} : (std Try.prog).step (sFieldAddr 29 (.pointer (some a)) 1) w K = K (.pointer (some (a.add 1))) w := step_run (rfa29_1)
theorem sx_fa29_1 {a : Addr}  {S : World → Prop} {k : Value → Prop} (hne : ∃ w, S w) : (std Try.prog).stepS S (sFieldAddr 29 (.pointer (some a)) 1) k = k (.pointer (some (a.add 1))) := stepS_run hne fun _ _ => rfa29_1
theorem px_fa29_2 {a : Addr}  {w : World} {K : Value → World → Prop} : (std Try.prog).step (sFieldAddr 29 (.pointer (some a)) 2) w K = K (.pointer (some (a.add 2))) w := step_run (rfa29_2)
theorem sx_fa29_2 {a : Addr}  {S : World → Prop} {k : Value → Prop} (hne : ∃ w, S w) : (std Try.prog).stepS S (sFieldAddr 29 (.pointer (some a)) 2) k = k (.pointer (some (a.add 2))) := stepS_run hne fun _ _ => rfa29_2
theorem px_fa29_3 {a : Addr}  {w : World} {K : Value → World → Prop} : (std Try.prog).step (sFieldAddr 29 (.pointer (some a)) 3) w K = K (.pointer (some (a.add 3))) w := step_run (rfa29_3)
theorem sx_fa29_3 {a : Addr}  {S : World → Prop} {k : Value → Prop} (hne : ∃ w, S w) : (std Try.prog).stepS S (sFieldAddr 29 (.pointer (some a)) 3) k = k (.pointer (some (a.add 3))) := stepS_run hne fun _ _ => rfa29_3
theorem px_fa33_0 {a : Addr}  {w : World} {K : Value → World → Prop} : (std Try.prog).step (sFieldAddr 33 (.pointer (some a)) 0) w K = K (.pointer (some (a))) w := step_run (rfa33_0)
theorem sx_fa33_0 {a : Addr}  {S : World → Prop} {k : Value → Prop} (hne : ∃ w, S w) : (std Try.prog).stepS S (sFieldAddr 33 (.pointer (some a)) 0) k = k (.pointer (some (a))) := stepS_run hne fun _ _ => rfa33_0
theorem px_fa33_1 {a : Addr}  {w : World} {K : Value → World → Prop} : (std Try.prog).step (sFieldAddr 33 (.pointer (some a)) 1) w K = K (.pointer (some (a.add 1))) w := step_run (rfa33_1)
theorem sx_fa33_1 {a : Addr}  {S : World → Prop} {k : Value → Prop} (hne : ∃ w, S w) : (std Try.prog).stepS S (sFieldAddr 33 (.pointer (some a)) 1) k = k (.pointer (some (a.add 1))) := stepS_run hne fun _ _ => rfa33_1
theorem px_fa33_2 {a : Addr}  {w : World} {K : Value → World → Prop} : (std Try.prog).step (sFieldAddr 33 (.pointer (some a)) 2) w K = K (.pointer (some (a.add 2))) w := step_run (rfa33_2)
theorem sx_fa33_2 {a : Addr}  {S : World → Prop} {k : Value → Prop} (hne : ∃ w, S w) : (std Try.prog).stepS S (sFieldAddr 33 (.pointer (some a)) 2) k = k (.pointer (some (a.add 2))) := stepS_run hne fun _ _ => rfa33_2
theorem px_fa33_3 {a : Addr}  {w : World} {K : Value → World → Prop} : (std Try.prog).step (sFieldAddr 33 (.pointer (some a)) 3) w K = K (.pointer (some (a.add 3))) w := step_run (rfa33_3)
theorem sx_fa33_3 {a : Addr}  {S : World → Prop} {k : Value → Prop} (hne : ∃ w, S w) : (std Try.prog).stepS S (sFieldAddr 33 (.pointer (some a)) 3) k = k (.pointer (some (a.add 3))) := stepS_run hne fun _ _ => rfa33_3
theorem px_fa33_4 {a : Addr}  {w : World} {K : Value → World → Prop} : (std Try.prog).step (sFieldAddr 33 (.pointer (some a)) 4) w K = K (.pointer (some (a.add 4))) w := step_run (rfa33_4)
theorem sx_fa33_4 {a : Addr}  {S : World → Prop} {k : Value → Prop} (hne : ∃ w, S w) : (std Try.prog).stepS S (sFieldAddr 33 (.pointer (some a)) 4) k = k (.pointer (some (a.add 4))) := stepS_run hne fun _ _ => rfa33_4
theorem px_fa33_5 {a : Addr}  {w : World} {K : Value → World → Prop} : (std Try.prog).step (sFieldAddr 33 (.pointer (some a)) 5) w K = K (.pointer (some (a.add 5))) w := step_run (rfa33_5)
theorem sx_fa33_5 {a : Addr}  {S : World → Prop} {k : Value → Prop} (hne : ∃ w, S w) : (std Try.prog).stepS S (sFieldAddr 33 (.pointer (some a)) 5) k = k (.pointer (some (a.add 5))) := stepS_run hne fun _ _ => rfa33_5
theorem px_fa33_6 {a : Addr}  {w : World} {K : Value → World → Prop} : (std Try.prog).step (sFieldAddr 33 (.pointer (some a)) 6) w K = K (.pointer (some (a.add 6))) w := step_run (rfa33_6)
theorem sx_fa33_6 {a : Addr}  {S : World → Prop} {k : Value → Prop} (hne : ∃ w, S w) : (std Try.prog).stepS S (sFieldAddr 33 (.pointer (some a)) 6) k = k (.pointer (some (a.add 6))) := stepS_run hne fun _ _ => rfa33_6
theorem px_fa33_7 {a : Addr}  {w : World} {K : Value → World → Prop} : (std Try.prog).step (sFieldAddr 33 (.pointer (some a)) 7) w K = K (.pointer (some (a.add 10))) w := step_run (rfa33_7)
theorem sx_fa33_7 {a : Addr}  {S : World → Prop} {k : Value → Prop} (hne : ∃ w, S w) : (std Try.prog).stepS S (sFieldAddr 33 (.pointer (some a)) 7) k = k (.pointer (some (a.add 10))) := stepS_run hne fun _ _ => rfa33_7
theorem px_fa33_8 {a : Addr}  {w : World} {K : Value → World → Prop} : (std Try.prog).step (sFieldAddr 33 (.pointer (some a)) 8) w K = K (.pointer (some (a.add 11))) w := step_run (rfa33_8)
theorem sx_fa33_8 {a : Addr}  {S : World → Prop} {k : Value → Prop} (hne : ∃ w, S w) : (std Try.prog).stepS S (sFieldAddr 33 (.pointer (some a)) 8) k = k (.pointer (some (a.add 11))) := stepS_run hne fun _ _ => rfa33_8
theorem px_fa51_0 {a : Addr}  {w : World} {K : Value → World → Prop} : (std Try.prog).step (sFieldAddr 51 (.pointer (some a)) 0) w K = K (.pointer (some (a))) w := step_run (rfa51_0)
theorem sx_fa51_0 {a : Addr}  {S : World → Prop} {k : Value → Prop} (hne : ∃ w, S w) : (std Try.prog).stepS S (sFieldAddr 51 (.pointer (some a)) 0) k = k (.pointer (some (a))) := stepS_run hne fun _ _ => rfa51_0
theorem px_fa51_1 {a : Addr}  {w : World} {K : Value → World → Prop} : (std Try.prog).step (sFieldAddr 51 (.pointer (some a)) 1) w K = K (.pointer (some (a.add 1))) w := step_run (rfa51_1)
theorem sx_fa51_1 {a : Addr}  {S : World → Prop} {k : Value → Prop} (hne : ∃ w, S w) : (std Try.prog).stepS S (sFieldAddr 51 (.pointer (some a)) 1) k = k (.pointer (some (a.add 1))) := stepS_run hne fun _ _ => rfa51_1
theorem px_fa51_2 {a : Addr}  {w : World} {K : Value → World → Prop} : (std Try.prog).step (sFieldAddr 51 (.pointer (some a)) 2) w K = K (.pointer (some (a.add 2))) w := step_run (rfa51_2)
theorem sx_fa51_2 {a : Addr}  {S : World → Prop} {k : Value → Prop} (hne : ∃ w, S w) : (std Try.prog).stepS S (sFieldAddr 51 (.pointer (some a)) 2) k = k (.pointer (some (a.add 2))) := stepS_run hne fun _ _ => rfa51_2
theorem px_fa53_0 {a : Addr}  {w : World} {K : Value → World → Prop} : (std Try.prog).step (sFieldAddr 53 (.pointer (some a)) 0) w K = K (.pointer (some (a))) w := step_run (rfa53_0)
theorem sx_fa53_0 {a : Addr}  {S : World → Prop} {k : Value → Prop} (hne : ∃ w, S w) : (std Try.prog).stepS S (sFieldAddr 53 (.pointer (some a)) 0) k = k (.pointer (some (a))) := stepS_run hne fun _ _ => rfa53_0
theorem px_fa53_1 {a : Addr}  {w : World} {K : Value → World → Prop} : (std Try.prog).step (sFieldAddr 53 (.pointer (some a)) 1) w K = K (.pointer (some (a.add 1))) w := step_run (rfa53_1)
theorem sx_fa53_1 {a : Addr}  {S : World → Prop} {k : Value → Prop} (hne : ∃ w, S w) : (std Try.prog).stepS S (sFieldAddr 53 (.pointer (some a)) 1) k = k (.pointer (some (a.add 1))) := stepS_run hne fun _ _ => rfa53_1
theorem px_fa57_0 {a : Addr}  {w : World} {K : Value → World → Prop} : (std Try.prog).step (sFieldAddr 57 (.pointer (some a)) 0) w K = K (.pointer (some (a))) w := step_run (rfa57_0)
theorem sx_fa57_0 {a : Addr}  {S : World → Prop} {k : Value → Prop} (hne : ∃ w, S w) : (std Try.prog).stepS S (sFieldAddr 57 (.pointer (some a)) 0) k = k (.pointer (some (a))) := stepS_run hne fun _ _ => rfa57_0
theorem px_fa63_0 {a : Addr}  {w : World} {K : Value → World → Prop} : (std Try.prog).step (sFieldAddr 63 (.pointer (some a)) 0) w K = K (.pointer (some (a))) w := step_run (rfa63_0)
theorem sx_fa63_0 {a : Addr}  {S : World → Prop} {k : Value → Prop} (hne : ∃ w, S w) : (std Try.prog).stepS S (sFieldAddr 63 (.pointer (some a)) 0) k = k (.pointer (some (a))) := stepS_run hne fun _ _ => rfa63_0
theorem px_fa63_1 {a : Addr}  {w : World} {K : Value → World → Prop} : (std Try.prog).step (sFieldAddr 63 (.pointer (some a)) 1) w K = K (.pointer (some (a.add 1))) w := step_run (rfa63_1)
theorem sx_fa63_1 {a : Addr}  {S : World → Prop} {k : Value → Prop} (hne : ∃ w, S w) : (std Try.prog).stepS S (sFieldAddr 63 (.pointer (some a)) 1) k = k (.pointer (some (a.add 1))) := stepS_run hne fun _ _ => rfa63_1
theorem px_fa63_2 {a : Addr}  {w : World} {K : Value → World → Prop} : (std Try.prog).step (sFieldAddr 63 (.pointer (some a)) 2) w K = K (.pointer (some (a.add 2))) w := step_run (rfa63_2)
theorem sx_fa63_2 {a : Addr}  {S : World → Prop} {k : Value → Prop} (hne : ∃ w, S w) : (std Try.prog).stepS S (sFieldAddr 63 (.pointer (some a)) 2) k = k (.pointer (some (a.add 2))) := stepS_run hne fun _ _ => rfa63_2
theorem px_fa97_0 {a : Addr}  {w : World} {K : Value → World → Prop} : (std Try.prog).step (sFieldAddr 97 (.pointer (some a)) 0) w K = K (.pointer (some (a))) w := step_run (rfa97_0)
theorem sx_fa97_0 {a : Addr}  {S : World → Prop} {k : Value → Prop} (hne : ∃ w, S w) : (std Try.prog).stepS S (sFieldAddr 97 (.pointer (some a)) 0) k = k (.pointer (some (a))) := stepS_run hne fun _ _ => rfa97_0
theorem px_fa99_0 {a : Addr}  {w : World} {K : Value → World → Prop} : (std Try.prog).step (sFieldAddr 99 (.pointer (some a)) 0) w K = K (.pointer (some (a))) w := step_run (rfa99_0)
theorem sx_fa99_0 {a : Addr}  {S : World → Prop} {k : Value → Prop} (hne : ∃ w, S w) : (std Try.prog).stepS S (sFieldAddr 99 (.pointer (some a)) 0) k = k (.pointer (some (a))) := stepS_run hne fun _ _ => rfa99_0
theorem px_fa99_1 {a : Addr}  {w : World} {K : Value → World → Prop} : (std Try.prog).step (sFieldAddr 99 (.pointer (some a)) 1) w K = K (.pointer (some (a.add 1))) w := step_run (rfa99_1)
theorem sx_fa99_1 {a : Addr}  {S : World → Prop} {k : Value → Prop} (hne : ∃ w, S w) : (std Try.prog).stepS S (sFieldAddr 99 (.pointer (some a)) 1) k = k (.pointer (some (a.add 1))) := stepS_run hne fun _ _ => rfa99_1
theorem px_xa114 {a : Addr} {i : Nat} (h : i < 16) {w : World} {K : Value → World → Prop} : (std Try.prog).step (sIndexAddr 114 (.pointer (some a)) (.int .i64 (i : Nat))) w K = K (.pointer (some (a.add (i)))) w := step_run (rxa114 h)
theorem sx_xa114 {a : Addr} {i : Nat} (h : i < 16) {S : World → Prop} {k : Value → Prop} (hne : ∃ w, S w) : (std Try.prog).stepS S (sIndexAddr 114 (.pointer (some a)) (.int .i64 (i : Nat))) k = k (.pointer (some (a.add (i)))) := stepS_run hne fun _ _ => rxa114 h
theorem px_ix22 {a : Addr} {n c i : Nat} (h : i < n) {w : World} {K : Value → World → Prop} : (std Try.prog).step (sIndexAddr 22 (.slice (some a) n c) (.int .i64 (i : Nat))) w K = K (.pointer (some (a.add (i)))) w := step_run (rix22 h)
theorem sx_ix22 {a : Addr} {n c i : Nat} (h : i < n) {S : World → Prop} {k : Value → Prop} (hne : ∃ w, S w) : (std Try.prog).stepS S (sIndexAddr 22 (.slice (some a) n c) (.int .i64 (i : Nat))) k = k (.pointer (some (a.add (i)))) := stepS_run hne fun _ _ => rix22 h
theorem px_ix30 {a : Addr} {n c i : Nat} (h : i < n) {w : World} {K : Value → World → Prop} : (std Try.prog).step (sIndexAddr 30 (.slice (some a) n c) (.int .i64 (i : Nat))) w K = K (.pointer (some (a.add (i * 3)))) w := step_run (rix30 h)
theorem sx_ix30 {a : Addr} {n c i : Nat} (h : i < n) {S : World → Prop} {k : Value → Prop} (hne : ∃ w, S w) : (std Try.prog).stepS S (sIndexAddr 30 (.slice (some a) n c) (.int .i64 (i : Nat))) k = k (.pointer (some (a.add (i * 3)))) := stepS_run hne fun _ _ => rix30 h
theorem px_ix31 {a : Addr} {n c i : Nat} (h : i < n) {w : World} {K : Value → World → Prop} : (std Try.prog).step (sIndexAddr 31 (.slice (some a) n c) (.int .i64 (i : Nat))) w K = K (.pointer (some (a.add (i * 2)))) w := step_run (rix31 h)
theorem sx_ix31 {a : Addr} {n c i : Nat} (h : i < n) {S : World → Prop} {k : Value → Prop} (hne : ∃ w, S w) : (std Try.prog).stepS S (sIndexAddr 31 (.slice (some a) n c) (.int .i64 (i : Nat))) k = k (.pointer (some (a.add (i * 2)))) := stepS_run hne fun _ _ => rix31 h
/-- the rules for single steps, all at once -/
theorem PX : (∀ {t : TypeId} {x y : Operand} {q : IntKind} {a b : Int}  {w : World} {K : Value → World → Prop}, (std Try.prog).step (sBin .add t x y (.int q a) (.int q b)) w K = K (.int q (q.wrap (a + b))) w) ∧
  (∀ {t : TypeId} {x y : Operand} {q : IntKind} {a b : Int}  {w : World} {K : Value → World → Prop}, (std Try.prog).step (sBin .sub t x y (.int q a) (.int q b)) w K = K (.int q (q.wrap (a - b))) w) ∧
  (∀ {t : TypeId} {x y : Operand} {q : IntKind} {a b : Int}  {w : World} {K : Value → World → Prop}, (std Try.prog).step (sBin .mul t x y (.int q a) (.int q b)) w K = K (.int q (q.wrap (a * b))) w) ∧
  (∀ {t : TypeId} {x y : Operand} {q : IntKind} {a b : Int}  {w : World} {K : Value → World → Prop}, (std Try.prog).step (sBin .and t x y (.int q a) (.int q b)) w K = K (.int q (bitOp .and q a b)) w) ∧
  (∀ {t : TypeId} {x y : Operand} {q : IntKind} {a b : Int}  {w : World} {K : Value → World → Prop}, (std Try.prog).step (sBin .or t x y (.int q a) (.int q b)) w K = K (.int q (bitOp .or q a b)) w) ∧
  (∀ {t : TypeId} {x y : Operand} {q : IntKind} {a b : Int}  {w : World} {K : Value → World → Prop}, (std Try.prog).step (sBin .xor t x y (.int q a) (.int q b)) w K = K (.int q (bitOp .xor q a b)) w) ∧
  (∀ {t : TypeId} {x y : Operand} {q : IntKind} {a b : Int}  {w : World} {K : Value → World → Prop}, (std Try.prog).step (sBin .lss t x y (.int q a) (.int q b)) w K = K (.bool (decide (a < b))) w) ∧
  (∀ {t : TypeId} {x y : Operand} {q : IntKind} {a b : Int}  {w : World} {K : Value → World → Prop}, (std Try.prog).step (sBin .leq t x y (.int q a) (.int q b)) w K = K (.bool (decide (a ≤ b))) w) ∧
  (∀ {t : TypeId} {x y : Operand} {q : IntKind} {a b : Int}  {w : World} {K : Value → World → Prop}, (std Try.prog).step (sBin .gtr t x y (.int q a) (.int q b)) w K = K (.bool (decide (b < a))) w) ∧
  (∀ {t : TypeId} {x y : Operand} {q : IntKind} {a b : Int}  {w : World} {K : Value → World → Prop}, (std Try.prog).step (sBin .geq t x y (.int q a) (.int q b)) w K = K (.bool (decide (b ≤ a))) w) ∧
  (∀ {t : TypeId} {x y : Operand} {q : IntKind} {a b : Int}  {w : World} {K : Value → World → Prop}, (std Try.prog).step (sBin .eql t x y (.int q a) (.int q b)) w K = K (.bool (decide (a = b))) w) ∧
  (∀ {t : TypeId} {x y : Operand} {q : IntKind} {a b : Int}  {w : World} {K : Value → World → Prop}, (std Try.prog).step (sBin .neq t x y (.int q a) (.int q b)) w K = K (.bool (decide (a ≠ b))) w) ∧
  (∀ {t : TypeId} {x y : Operand} {q : IntKind} {a b : Int} (h : b ≠ 0) {w : World} {K : Value → World → Prop}, (std Try.prog).step (sBin .quo t x y (.int q a) (.int q b)) w K = K (.int q (q.wrap (a.tdiv b))) w) ∧
  (∀ {t : TypeId} {x y : Operand} {q : IntKind} {a b : Int} (h : b ≠ 0) {w : World} {K : Value → World → Prop}, (std Try.prog).step (sBin .rem t x y (.int q a) (.int q b)) w K = K (.int q (a.tmod b)) w) ∧
  (∀ {t : TypeId} {x y : Operand} {q q' : IntKind} {a b : Int} (h : ¬ b < 0) {w : World} {K : Value → World → Prop}, (std Try.prog).step (sBin .shl t x y (.int q a) (.int q' b)) w K = K (.int q (q.wrap (a * 2 ^ (min b.toNat q.bits)))) w) ∧
  (∀ {t : TypeId} {x y : Operand} {q q' : IntKind} {a b : Int} (h : ¬ b < 0) {w : World} {K : Value → World → Prop}, (std Try.prog).step (sBin .shr t x y (.int q a) (.int q' b)) w K = K (.int q (a.fdiv (2 ^ (min b.toNat q.bits)))) w) ∧
  (∀ {t : TypeId} {x y : Operand} {a b : ByteArray}  {w : World} {K : Value → World → Prop}, (std Try.prog).step (sBin .eql t x y (.string a) (.string b)) w K = K (.bool (decide (a = b))) w) ∧
  (∀ {t : TypeId} {x y : Operand} {a b : ByteArray}  {w : World} {K : Value → World → Prop}, (std Try.prog).step (sBin .neq t x y (.string a) (.string b)) w K = K (.bool (!decide (a = b))) w) ∧
  (∀ {t : TypeId} {x y : Operand} {a b : ByteArray} (h : a.size + b.size ≤ 9223372036854775807) {w : World} {K : Value → World → Prop}, (std Try.prog).step (sBin .add t x y (.string a) (.string b)) w K = K (.string (a ++ b)) w) ∧
  (∀ {b : Bool}  {w : World} {K : Value → World → Prop}, (std Try.prog).step (sUn .not (.bool b)) w K = K (.bool (!b)) w) ∧
  (∀ {q : IntKind} {a : Int}  {w : World} {K : Value → World → Prop}, (std Try.prog).step (sUn .neg (.int q a)) w K = K (.int q (q.wrap (0 - a))) w) ∧
  (∀ {q : IntKind} {a : Int}  {w : World} {K : Value → World → Prop}, (std Try.prog).step (sUn .xor (.int q a)) w K = K (.int q (bitOp .xor q (if q.signed then -1 else q.max) a)) w) ∧
  (∀ {a : Addr}  {w : World} {K : Value → World → Prop}, (std Try.prog).step (sNil (.pointer (some a))) w K = K (.pointer (some a)) w) ∧
  (∀ {a b : Value}  {w : World} {K : Value → World → Prop}, (std Try.prog).step (sExtract (.tuple #[a, b]) 0) w K = K (a) w) ∧
  (∀ {a b : Value}  {w : World} {K : Value → World → Prop}, (std Try.prog).step (sExtract (.tuple #[a, b]) 1) w K = K (b) w) ∧
  (∀ {a b c : Value}  {w : World} {K : Value → World → Prop}, (std Try.prog).step (sExtract (.tuple #[a, b, c]) 0) w K = K (a) w) ∧
  (∀ {a b c : Value}  {w : World} {K : Value → World → Prop}, (std Try.prog).step (sExtract (.tuple #[a, b, c]) 1) w K = K (b) w) ∧
  (∀ {a b c : Value}  {w : World} {K : Value → World → Prop}, (std Try.prog).step (sExtract (.tuple #[a, b, c]) 2) w K = K (c) w) ∧
  (∀ {ats : Array TypeId} {ty : TypeId} {c : List Bool} {q : IntKind} {a b : Int}  {w : World} {K : Value → World → Prop}, (std Try.prog).step (sBuiltin .min ats ty c [.int q a, .int q b]) w K = K (.int q (if b < a then b else a)) w) ∧
  (∀ {ats : Array TypeId} {ty : TypeId} {c : List Bool} {q : IntKind} {a b : Int}  {w : World} {K : Value → World → Prop}, (std Try.prog).step (sBuiltin .max ats ty c [.int q a, .int q b]) w K = K (.int q (if a < b then b else a)) w) ∧
  (∀ {x y : Operand} {a b : Bool}  {w : World} {K : Value → World → Prop}, (std Try.prog).step (sBin .eql 4 x y (.bool a) (.bool b)) w K = K (.bool (a == b)) w) ∧
  (∀ {x y : Operand} {a : Addr}  {w : World} {K : Value → World → Prop}, (std Try.prog).step (sBin .eql 60 x y (.pointer (some a)) (.pointer none)) w K = K (.bool false) w) ∧
  (∀ {x y : Operand}  {w : World} {K : Value → World → Prop}, (std Try.prog).step (sBin .eql 60 x y (.pointer none) (.pointer none)) w K = K (.bool true) w) ∧
  (∀ {x y : Operand} {a : Addr}  {w : World} {K : Value → World → Prop}, (std Try.prog).step (sBin .eql 76 x y (.pointer (some a)) (.pointer none)) w K = K (.bool false) w) ∧
  (∀ {x y : Operand}  {w : World} {K : Value → World → Prop}, (std Try.prog).step (sBin .eql 76 x y (.pointer none) (.pointer none)) w K = K (.bool true) w) ∧
  (∀ {ty : TypeId} {c : List Bool} {A : Option Addr} {n m : Nat}  {w : World} {K : Value → World → Prop}, (std Try.prog).step (sBuiltin .len #[22] ty c [.slice A n m]) w K = K (.int .i64 n) w) ∧
  (∀ {ty : TypeId} {c : List Bool} {A : Option Addr} {n m : Nat}  {w : World} {K : Value → World → Prop}, (std Try.prog).step (sBuiltin .len #[30] ty c [.slice A n m]) w K = K (.int .i64 n) w) ∧
  (∀ {ty : TypeId} {c : List Bool} {A : Option Addr} {n m : Nat}  {w : World} {K : Value → World → Prop}, (std Try.prog).step (sBuiltin .len #[31] ty c [.slice A n m]) w K = K (.int .i64 n) w) ∧
  (∀ {ty : TypeId} {c : List Bool} {s : ByteArray}  {w : World} {K : Value → World → Prop}, (std Try.prog).step (sBuiltin .len #[9] ty c [.string s]) w K = K (.int .i64 s.size) w) ∧
  (∀ {q : IntKind} {n : Int}  {w : World} {K : Value → World → Prop}, (std Try.prog).step (sConv 24 25 (.int q n)) w K = K (.int .u64 (IntKind.wrap .u64 n)) w) ∧
  (∀ {q : IntKind} {n : Int}  {w : World} {K : Value → World → Prop}, (std Try.prog).step (sConv 24 5 (.int q n)) w K = K (.int .u8 (IntKind.wrap .u8 n)) w) ∧
  (∀ {q : IntKind} {n : Int}  {w : World} {K : Value → World → Prop}, (std Try.prog).step (sConv 25 24 (.int q n)) w K = K (.int .i64 (IntKind.wrap .i64 n)) w) ∧
  (∀ {q : IntKind} {n : Int}  {w : World} {K : Value → World → Prop}, (std Try.prog).step (sConv 25 27 (.int q n)) w K = K (.int .i64 (IntKind.wrap .i64 n)) w) ∧
  (∀ {q : IntKind} {n : Int}  {w : World} {K : Value → World → Prop}, (std Try.prog).step (sConv 25 3 (.int q n)) w K = K (.int .i64 (IntKind.wrap .i64 n)) w) ∧
  (∀ {q : IntKind} {n : Int}  {w : World} {K : Value → World → Prop}, (std Try.prog).step (sConv 25 49 (.int q n)) w K = K (.int .i64 (IntKind.wrap .i64 n)) w) ∧
  (∀ {q : IntKind} {n : Int}  {w : World} {K : Value → World → Prop}, (std Try.prog).step (sConv 25 5 (.int q n)) w K = K (.int .u8 (IntKind.wrap .u8 n)) w) ∧
  (∀ {q : IntKind} {n : Int}  {w : World} {K : Value → World → Prop}, (std Try.prog).step (sConv 25 70 (.int q n)) w K = K (.int .u16 (IntKind.wrap .u16 n)) w) ∧
  (∀ {q : IntKind} {n : Int}  {w : World} {K : Value → World → Prop}, (std Try.prog).step (sConv 25 89 (.int q n)) w K = K (.int .u32 (IntKind.wrap .u32 n)) w) ∧
  (∀ {q : IntKind} {n : Int}  {w : World} {K : Value → World → Prop}, (std Try.prog).step (sConv 27 25 (.int q n)) w K = K (.int .u64 (IntKind.wrap .u64 n)) w) ∧
  (∀ {q : IntKind} {n : Int}  {w : World} {K : Value → World → Prop}, (std Try.prog).step (sConv 27 5 (.int q n)) w K = K (.int .u8 (IntKind.wrap .u8 n)) w) ∧
  (∀ {q : IntKind} {n : Int}  {w : World} {K : Value → World → Prop}, (std Try.prog).step (sConv 3 25 (.int q n)) w K = K (.int .u64 (IntKind.wrap .u64 n)) w) ∧
  (∀ {q : IntKind} {n : Int}  {w : World} {K : Value → World → Prop}, (std Try.prog).step (sConv 3 5 (.int q n)) w K = K (.int .u8 (IntKind.wrap .u8 n)) w) ∧
  (∀ {q : IntKind} {n : Int}  {w : World} {K : Value → World → Prop}, (std Try.prog).step (sConv 3 70 (.int q n)) w K = K (.int .u16 (IntKind.wrap .u16 n)) w) ∧
  (∀ {q : IntKind} {n : Int}  {w : World} {K : Value → World → Prop}, (std Try.prog).step (sConv 3 89 (.int q n)) w K = K (.int .u32 (IntKind.wrap .u32 n)) w) ∧
  (∀ {q : IntKind} {n : Int}  {w : World} {K : Value → World → Prop}, (std Try.prog).step (sConv 49 25 (.int q n)) w K = K (.int .u64 (IntKind.wrap .u64 n)) w) ∧
  (∀ {q : IntKind} {n : Int}  {w : World} {K : Value → World → Prop}, (std Try.prog).step (sConv 49 5 (.int q n)) w K = K (.int .u8 (IntKind.wrap .u8 n)) w) ∧
  (∀ {q : IntKind} {n : Int}  {w : World} {K : Value → World → Prop}, (std Try.prog).step (sConv 5 24 (.int q n)) w K = K (.int .i64 (IntKind.wrap .i64 n)) w) ∧
  (∀ {q : IntKind} {n : Int}  {w : World} {K : Value → World → Prop}, (std Try.prog).step (sConv 5 25 (.int q n)) w K = K (.int .u64 (IntKind.wrap .u64 n)) w) ∧
  (∀ {q : IntKind} {n : Int}  {w : World} {K : Value → World → Prop}, (std Try.prog).step (sConv 5 27 (.int q n)) w K = K (.int .i64 (IntKind.wrap .i64 n)) w) ∧
  (∀ {q : IntKind} {n : Int}  {w : World} {K : Value → World → Prop}, (std Try.prog).step (sConv 5 3 (.int q n)) w K = K (.int .i64 (IntKind.wrap .i64 n)) w) ∧
  (∀ {q : IntKind} {n : Int}  {w : World} {K : Value → World → Prop}, (std Try.prog).step (sConv 5 49 (.int q n)) w K = K (.int .i64 (IntKind.wrap .i64 n)) w) ∧
  (∀ {q : IntKind} {n : Int}  {w : World} {K : Value → World → Prop}, (std Try.prog).step (sConv 5 89 (.int q n)) w K = K (.int .u32 (IntKind.wrap .u32 n)) w) ∧
  (∀ {q : IntKind} {n : Int}  {w : World} {K : Value → World → Prop}, (std Try.prog).step (sConv 70 25 (.int q n)) w K = K (.int .u64 (IntKind.wrap .u64 n)) w) ∧
  (∀ {q : IntKind} {n : Int}  {w : World} {K : Value → World → Prop}, (std Try.prog).step (sConv 70 3 (.int q n)) w K = K (.int .i64 (IntKind.wrap .i64 n)) w) ∧
  (∀ {q : IntKind} {n : Int}  {w : World} {K : Value → World → Prop}, (std Try.prog).step (sConv 89 25 (.int q n)) w K = K (.int .u64 (IntKind.wrap .u64 n)) w) ∧
  (∀ {q : IntKind} {n : Int}  {w : World} {K : Value → World → Prop}, (std Try.prog).step (sConv 89 3 (.int q n)) w K = K (.int .i64 (IntKind.wrap .i64 n)) w) ∧
  (∀ {q : IntKind} {n : Int}  {w : World} {K : Value → World → Prop}, (std Try.prog).step (sConv 89 5 (.int q n)) w K = K (.int .u8 (IntKind.wrap .u8 n)) w) ∧
  (∀ {a : Addr}  {w : World} {K : Value → World → Prop}, (std Try.prog).step (sFieldAddr 108 (.pointer (some a)) 0) w K = K (.pointer (some (a))) w) ∧
  (∀ {a : Addr}  {w : World} {K : Value → World → Prop}, (std Try.prog).step (sFieldAddr 29 (.pointer (some a)) 0) w K = K (.pointer (some (a))) w) ∧
  (∀ {a : Addr}  {w : World} {K : Value → World → Prop}, (std Try.prog).step (sFieldAddr 29 (.pointer (some a)) 1) w K = K (.pointer (some (a.add 1))) w) ∧
  (∀ {a : Addr}  {w : World} {K : Value → World → Prop}, (std Try.prog).step (sFieldAddr 29 (.pointer (some a)) 2) w K = K (.pointer (some (a.add 2))) w) ∧
  (∀ {a : Addr}  {w : World} {K : Value → World → Prop}, (std Try.prog).step (sFieldAddr 29 (.pointer (some a)) 3) w K = K (.pointer (some (a.add 3))) w) ∧
  (∀ {a : Addr}  {w : World} {K : Value → World → Prop}, (std Try.prog).step (sFieldAddr 33 (.pointer (some a)) 0) w K = K (.pointer (some (a))) w) ∧
  (∀ {a : Addr}  {w : World} {K : Value → World → Prop}, (std Try.prog).step (sFieldAddr 33 (.pointer (some a)) 1) w K = K (.pointer (some (a.add 1))) w) ∧
  (∀ {a : Addr}  {w : World} {K : Value → World → Prop}, (std Try.prog).step (sFieldAddr 33 (.pointer (some a)) 2) w K = K (.pointer (some (a.add 2))) w) ∧
  (∀ {a : Addr}  {w : World} {K : Value → World → Prop}, (std Try.prog).step (sFieldAddr 33 (.pointer (some a)) 3) w K = K (.pointer (some (a.add 3))) w) ∧
  (∀ {a : Addr}  {w : World} {K : Value → World → Prop}, (std Try.prog).step (sFieldAddr 33 (.pointer (some a)) 4) w K = K (.pointer (some (a.add 4))) w) ∧
  (∀ {a : Addr}  {w : World} {K : Value → World → Prop}, (std Try.prog).step (sFieldAddr 33 (.pointer (some a)) 5) w K = K (.pointer (some (a.add 5))) w) ∧
  (∀ {a : Addr}  {w : World} {K : Value → World → Prop}, (std Try.prog).step (sFieldAddr 33 (.pointer (some a)) 6) w K = K (.pointer (some (a.add 6))) w) ∧
  (∀ {a : Addr}  {w : World} {K : Value → World → Prop}, (std Try.prog).step (sFieldAddr 33 (.pointer (some a)) 7) w K = K (.pointer (some (a.add 10))) w) ∧
  (∀ {a : Addr}  {w : World} {K : Value → World → Prop}, (std Try.prog).step (sFieldAddr 33 (.pointer (some a)) 8) w K = K (.pointer (some (a.add 11))) w) ∧
  (∀ {a : Addr}  {w : World} {K : Value → World → Prop}, (std Try.prog).step (sFieldAddr 51 (.pointer (some a)) 0) w K = K (.pointer (some (a))) w) ∧
  (∀ {a : Addr}  {w : World} {K : Value → World → Prop}, (std Try.prog).step (sFieldAddr 51 (.pointer (some a)) 1) w K = K (.pointer (some (a.add 1))) w) ∧
  (∀ {a : Addr}  {w : World} {K : Value → World → Prop}, (std Try.prog).step (sFieldAddr 51 (.pointer (some a)) 2) w K = K (.pointer (some (a.add 2))) w) ∧
  (∀ {a : Addr}  {w : World} {K : Value → World → Prop}, (std Try.prog).step (sFieldAddr 53 (.pointer (some a)) 0) w K = K (.pointer (some (a))) w) ∧
  (∀ {a : Addr}  {w : World} {K : Value → World → Prop}, (std Try.prog).step (sFieldAddr 53 (.pointer (some a)) 1) w K = K (.pointer (some (a.add 1))) w) ∧
  (∀ {a : Addr}  {w : World} {K : Value → World → Prop}, (std Try.prog).step (sFieldAddr 57 (.pointer (some a)) 0) w K = K (.pointer (some (a))) w) ∧
  (∀ {a : Addr}  {w : World} {K : Value → World → Prop}, (std Try.prog).step (sFieldAddr 63 (.pointer (some a)) 0) w K = K (.pointer (some (a))) w) ∧
  (∀ {a : Addr}  {w : World} {K : Value → World → Prop}, (std Try.prog).step (sFieldAddr 63 (.pointer (some a)) 1) w K = K (.pointer (some (a.add 1))) w) ∧
  (∀ {a : Addr}  {w : World} {K : Value → World → Prop}, (std Try.prog).step (sFieldAddr 63 (.pointer (some a)) 2) w K = K (.pointer (some (a.add 2))) w) ∧
  (∀ {a : Addr}  {w : World} {K : Value → World → Prop}, (std Try.prog).step (sFieldAddr 97 (.pointer (some a)) 0) w K = K (.pointer (some (a))) w) ∧
  (∀ {a : Addr}  {w : World} {K : Value → World → Prop}, (std Try.prog).step (sFieldAddr 99 (.pointer (some a)) 0) w K = K (.pointer (some (a))) w) ∧
  (∀ {a : Addr}  {w : World} {K : Value → World → Prop}, (std Try.prog).step (sFieldAddr 99 (.pointer (some a)) 1) w K = K (.pointer (some (a.add 1))) w) ∧
  (∀ {a : Addr} {i : Nat} (h : i < 16) {w : World} {K : Value → World → Prop}, (std Try.prog).step (sIndexAddr 114 (.pointer (some a)) (.int .i64 (i : Nat))) w K = K (.pointer (some (a.add (i)))) w) ∧
  (∀ {a : Addr} {n c i : Nat} (h : i < n) {w : World} {K : Value → World → Prop}, (std Try.prog).step (sIndexAddr 22 (.slice (some a) n c) (.int .i64 (i : Nat))) w K = K (.pointer (some (a.add (i)))) w) ∧
  (∀ {a : Addr} {n c i : Nat} (h : i < n) {w : World} {K : Value → World → Prop}, (std Try.prog).step (sIndexAddr 30 (.slice (some a) n c) (.int .i64 (i : Nat))) w K = K (.pointer (some (a.add (i * 3)))) w) ∧
  (∀ {a : Addr} {n c i : Nat} (h : i < n) {w : World} {K : Value → World → Prop}, (std Try.prog).step (sIndexAddr 31 (.slice (some a) n c) (.int .i64 (i : Nat))) w K = K (.pointer (some (a.add (i * 2)))) w) := ⟨@px_add, @px_sub, @px_mul, @px_and, @px_or, @px_xor, @px_lss, @px_leq, @px_gtr, @px_geq, @px_eql, @px_neq, @px_quo, @px_rem, @px_shl, @px_shr, @px_seql, @px_sneq, @px_sadd, @px_not, @px_neg, @px_inv, @px_nilc, @px_ext20, @px_ext21, @px_ext30, @px_ext31, @px_ext32, @px_min, @px_max, @px_beql4, @px_peql60, @px_neql60, @px_peql76, @px_neql76, @px_len22, @px_len30, @px_len31, @px_len9, @px_cv24_25, @px_cv24_5, @px_cv25_24, @px_cv25_27, @px_cv25_3, @px_cv25_49, @px_cv25_5, @px_cv25_70, @px_cv25_89, @px_cv27_25, @px_cv27_5, @px_cv3_25, @px_cv3_5, @px_cv3_70, @px_cv3_89, @px_cv49_25, @px_cv49_5, @px_cv5_24, @px_cv5_25, @px_cv5_27, @px_cv5_3, @px_cv5_49, @px_cv5_89, @px_cv70_25, @px_cv70_3, @px_cv89_25, @px_cv89_3, @px_cv89_5, @px_fa108_0, @px_fa29_0, @px_fa29_1, @px_fa29_2, @px_fa29_3, @px_fa33_0, @px_fa33_1, @px_fa33_2, @px_fa33_3, @px_fa33_4, @px_fa33_5, @px_fa33_6, @px_fa33_7, @px_fa33_8, @px_fa51_0, @px_fa51_1, @px_fa51_2, @px_fa53_0, @px_fa53_1, @px_fa57_0, @px_fa63_0, @px_fa63_1, @px_fa63_2, @px_fa97_0, @px_fa99_0, @px_fa99_1, @px_xa114, @px_ix22, @px_ix30, @px_ix31⟩
theorem SX : (∀ {t : TypeId} {x y : Operand} {q : IntKind} {a b : Int}  {S : World → Prop} {k : Value → Prop} (hne : ∃ w, S w), (std Try.prog).stepS S (sBin .add t x y (.int q a) (.int q b)) k = k (.int q (q.wrap (a + b)))) ∧
  (∀ {t : TypeId} {x y : Operand} {q : IntKind} {a b : Int}  {S : World → Prop} {k : Value → Prop} (hne : ∃ w, S w), (std Try.prog).stepS S (sBin .sub t x y (.int q a) (.int q b)) k = k (.int q (q.wrap (a - b)))) ∧
  (∀ {t : TypeId} {x y : Operand} {q : IntKind} {a b : Int}  {S : World → Prop} {k : Value → Prop} (hne : ∃ w, S w), (std Try.prog).stepS S (sBin .mul t x y (.int q a) (.int q b)) k = k (.int q (q.wrap (a * b)))) ∧
  (∀ {t : TypeId} {x y : Operand} {q : IntKind} {a b : Int}  {S : World → Prop} {k : Value → Prop} (hne : ∃ w, S w), (std Try.prog).stepS S (sBin .and t x y (.int q a) (.int q b)) k = k (.int q (bitOp .and q a b))) ∧
  (∀ {t : TypeId} {x y : Operand} {q : IntKind} {a b : Int}  {S : World → Prop} {k : Value → Prop} (hne : ∃ w, S w), (std Try.prog).stepS S (sBin .or t x y (.int q a) (.int q b)) k = k (.int q (bitOp .or q a b))) ∧
  (∀ {t : TypeId} {x y : Operand} {q : IntKind} {a b : Int}  {S : World → Prop} {k : Value → Prop} (hne : ∃ w, S w), (std Try.prog).stepS S (sBin .xor t x y (.int q a) (.int q b)) k = k (.int q (bitOp .xor q a b))) ∧
  (∀ {t : TypeId} {x y : Operand} {q : IntKind} {a b : Int}  {S : World → Prop} {k : Value → Prop} (hne : ∃ w, S w), (std Try.prog).stepS S (sBin .lss t x y (.int q a) (.int q b)) k = k (.bool (decide (a < b)))) ∧
  (∀ {t : TypeId} {x y : Operand} {q : IntKind} {a b : Int}  {S : World → Prop} {k : Value → Prop} (hne : ∃ w, S w), (std Try.prog).stepS S (sBin .leq t x y (.int q a) (.int q b)) k = k (.bool (decide (a ≤ b)))) ∧
  (∀ {t : TypeId} {x y : Operand} {q : IntKind} {a b : Int}  {S : World → Prop} {k : Value → Prop} (hne : ∃ w, S w), (std Try.prog).stepS S (sBin .gtr t x y (.int q a) (.int q b)) k = k (.bool (decide (b < a)))) ∧
  (∀ {t : TypeId} {x y : Operand} {q : IntKind} {a b : Int}  {S : World → Prop} {k : Value → Prop} (hne : ∃ w, S w), (std Try.prog).stepS S (sBin .geq t x y (.int q a) (.int q b)) k = k (.bool (decide (b ≤ a)))) ∧
  (∀ {t : TypeId} {x y : Operand} {q : IntKind} {a b : Int}  {S : World → Prop} {k : Value → Prop} (hne : ∃ w, S w), (std Try.prog).stepS S (sBin .eql t x y (.int q a) (.int q b)) k = k (.bool (decide (a = b)))) ∧
  (∀ {t : TypeId} {x y : Operand} {q : IntKind} {a b : Int}  {S : World → Prop} {k : Value → Prop} (hne : ∃ w, S w), (std Try.prog).stepS S (sBin .neq t x y (.int q a) (.int q b)) k = k (.bool (decide (a ≠ b)))) ∧
  (∀ {t : TypeId} {x y : Operand} {q : IntKind} {a b : Int} (h : b ≠ 0) {S : World → Prop} {k : Value → Prop} (hne : ∃ w, S w), (std Try.prog).stepS S (sBin .quo t x y (.int q a) (.int q b)) k = k (.int q (q.wrap (a.tdiv b)))) ∧
  (∀ {t : TypeId} {x y : Operand} {q : IntKind} {a b : Int} (h : b ≠ 0) {S : World → Prop} {k : Value → Prop} (hne : ∃ w, S w), (std Try.prog).stepS S (sBin .rem t x y (.int q a) (.int q b)) k = k (.int q (a.tmod b))) ∧
  (∀ {t : TypeId} {x y : Operand} {q q' : IntKind} {a b : Int} (h : ¬ b < 0) {S : World → Prop} {k : Value → Prop} (hne : ∃ w, S w), (std Try.prog).stepS S (sBin .shl t x y (.int q a) (.int q' b)) k = k (.int q (q.wrap (a * 2 ^ (min b.toNat q.bits))))) ∧
  (∀ {t : TypeId} {x y : Operand} {q q' : IntKind} {a b : Int} (h : ¬ b < 0) {S : World → Prop} {k : Value → Prop} (hne : ∃ w, S w), (std Try.prog).stepS S (sBin .shr t x y (.int q a) (.int q' b)) k = k (.int q (a.fdiv (2 ^ (min b.toNat q.bits))))) ∧
  (∀ {t : TypeId} {x y : Operand} {a b : ByteArray}  {S : World → Prop} {k : Value → Prop} (hne : ∃ w, S w), (std Try.prog).stepS S (sBin .eql t x y (.string a) (.string b)) k = k (.bool (decide (a = b)))) ∧
  (∀ {t : TypeId} {x y : Operand} {a b : ByteArray}  {S : World → Prop} {k : Value → Prop} (hne : ∃ w, S w), (std Try.prog).stepS S (sBin .neq t x y (.string a) (.string b)) k = k (.bool (!decide (a = b)))) ∧
  (∀ {t : TypeId} {x y : Operand} {a b : ByteArray} (h : a.size + b.size ≤ 9223372036854775807) {S : World → Prop} {k : Value → Prop} (hne : ∃ w, S w), (std Try.prog).stepS S (sBin .add t x y (.string a) (.string b)) k = k (.string (a ++ b))) ∧
  (∀ {b : Bool}  {S : World → Prop} {k : Value → Prop} (hne : ∃ w, S w), (std Try.prog).stepS S (sUn .not (.bool b)) k = k (.bool (!b))) ∧
  (∀ {q : IntKind} {a : Int}  {S : World → Prop} {k : Value → Prop} (hne : ∃ w, S w), (std Try.prog).stepS S (sUn .neg (.int q a)) k = k (.int q (q.wrap (0 - a)))) ∧
  (∀ {q : IntKind} {a : Int}  {S : World → Prop} {k : Value → Prop} (hne : ∃ w, S w), (std Try.prog).stepS S (sUn .xor (.int q a)) k = k (.int q (bitOp .xor q (if q.signed then -1 else q.max) a))) ∧
  (∀ {a : Addr}  {S : World → Prop} {k : Value → Prop} (hne : ∃ w, S w), (std Try.prog).stepS S (sNil (.pointer (some a))) k = k (.pointer (some a))) ∧
  (∀ {a b : Value}  {S : World → Prop} {k : Value → Prop} (hne : ∃ w, S w), (std Try.prog).stepS S (sExtract (.tuple #[a, b]) 0) k = k (a)) ∧
  (∀ {a b : Value}  {S : World → Prop} {k : Value → Prop} (hne : ∃ w, S w), (std Try.prog).stepS S (sExtract (.tuple #[a, b]) 1) k = k (b)) ∧
  (∀ {a b c : Value}  {S : World → Prop} {k : Value → Prop} (hne : ∃ w, S w), (std Try.prog).stepS S (sExtract (.tuple #[a, b, c]) 0) k = k (a)) ∧
  (∀ {a b c : Value}  {S : World → Prop} {k : Value → Prop} (hne : ∃ w, S w), (std Try.prog).stepS S (sExtract (.tuple #[a, b, c]) 1) k = k (b)) ∧
  (∀ {a b c : Value}  {S : World → Prop} {k : Value → Prop} (hne : ∃ w, S w), (std Try.prog).stepS S (sExtract (.tuple #[a, b, c]) 2) k = k (c)) ∧
  (∀ {ats : Array TypeId} {ty : TypeId} {c : List Bool} {q : IntKind} {a b : Int}  {S : World → Prop} {k : Value → Prop} (hne : ∃ w, S w), (std Try.prog).stepS S (sBuiltin .min ats ty c [.int q a, .int q b]) k = k (.int q (if b < a then b else a))) ∧
  (∀ {ats : Array TypeId} {ty : TypeId} {c : List Bool} {q : IntKind} {a b : Int}  {S : World → Prop} {k : Value → Prop} (hne : ∃ w, S w), (std Try.prog).stepS S (sBuiltin .max ats ty c [.int q a, .int q b]) k = k (.int q (if a < b then b else a))) ∧
  (∀ {x y : Operand} {a b : Bool}  {S : World → Prop} {k : Value → Prop} (hne : ∃ w, S w), (std Try.prog).stepS S (sBin .eql 4 x y (.bool a) (.bool b)) k = k (.bool (a == b))) ∧
  (∀ {x y : Operand} {a : Addr}  {S : World → Prop} {k : Value → Prop} (hne : ∃ w, S w), (std Try.prog).stepS S (sBin .eql 60 x y (.pointer (some a)) (.pointer none)) k = k (.bool false)) ∧
  (∀ {x y : Operand}  {S : World → Prop} {k : Value → Prop} (hne : ∃ w, S w), (std Try.prog).stepS S (sBin .eql 60 x y (.pointer none) (.pointer none)) k = k (.bool true)) ∧
  (∀ {x y : Operand} {a : Addr}  {S : World → Prop} {k : Value → Prop} (hne : ∃ w, S w), (std Try.prog).stepS S (sBin .eql 76 x y (.pointer (some a)) (.pointer none)) k = k (.bool false)) ∧
  (∀ {x y : Operand}  {S : World → Prop} {k : Value → Prop} (hne : ∃ w, S w), (std Try.prog).stepS S (sBin .eql 76 x y (.pointer none) (.pointer none)) k = k (.bool true)) ∧
  (∀ {ty : TypeId} {c : List Bool} {A : Option Addr} {n m : Nat}  {S : World → Prop} {k : Value → Prop} (hne : ∃ w, S w), (std Try.prog).stepS S (sBuiltin .len #[22] ty c [.slice A n m]) k = k (.int .i64 n)) ∧
  (∀ {ty : TypeId} {c : List Bool} {A : Option Addr} {n m : Nat}  {S : World → Prop} {k : Value → Prop} (hne : ∃ w, S w), (std Try.prog).stepS S (sBuiltin .len #[30] ty c [.slice A n m]) k = k (.int .i64 n)) ∧
  (∀ {ty : TypeId} {c : List Bool} {A : Option Addr} {n m : Nat}  {S : World → Prop} {k : Value → Prop} (hne : ∃ w, S w), (std Try.prog).stepS S (sBuiltin .len #[31] ty c [.slice A n m]) k = k (.int .i64 n)) ∧
  (∀ {ty : TypeId} {c : List Bool} {s : ByteArray}  {S : World → Prop} {k : Value → Prop} (hne : ∃ w, S w), (std Try.prog).stepS S (sBuiltin .len #[9] ty c [.string s]) k = k (.int .i64 s.size)) ∧
  (∀ {q : IntKind} {n : Int}  {S : World → Prop} {k : Value → Prop} (hne : ∃ w, S w), (std Try.prog).stepS S (sConv 24 25 (.int q n)) k = k (.int .u64 (IntKind.wrap .u64 n))) ∧
  (∀ {q : IntKind} {n : Int}  {S : World → Prop} {k : Value → Prop} (hne : ∃ w, S w), (std Try.prog).stepS S (sConv 24 5 (.int q n)) k = k (.int .u8 (IntKind.wrap .u8 n))) ∧
  (∀ {q : IntKind} {n : Int}  {S : World → Prop} {k : Value → Prop} (hne : ∃ w, S w), (std Try.prog).stepS S (sConv 25 24 (.int q n)) k = k (.int .i64 (IntKind.wrap .i64 n))) ∧
  (∀ {q : IntKind} {n : Int}  {S : World → Prop} {k : Value → Prop} (hne : ∃ w, S w), (std Try.prog).stepS S (sConv 25 27 (.int q n)) k = k (.int .i64 (IntKind.wrap .i64 n))) ∧
  (∀ {q : IntKind} {n : Int}  {S : World → Prop} {k : Value → Prop} (hne : ∃ w, S w), (std Try.prog).stepS S (sConv 25 3 (.int q n)) k = k (.int .i64 (IntKind.wrap .i64 n))) ∧
  (∀ {q : IntKind} {n : Int}  {S : World → Prop} {k : Value → Prop} (hne : ∃ w, S w), (std Try.prog).stepS S (sConv 25 49 (.int q n)) k = k (.int .i64 (IntKind.wrap .i64 n))) ∧
  (∀ {q : IntKind} {n : Int}  {S : World → Prop} {k : Value → Prop} (hne : ∃ w, S w), (std Try.prog).stepS S (sConv 25 5 (.int q n)) k = k (.int .u8 (IntKind.wrap .u8 n))) ∧
  (∀ {q : IntKind} {n : Int}  {S : World → Prop} {k : Value → Prop} (hne : ∃ w, S w), (std Try.prog).stepS S (sConv 25 70 (.int q n)) k = k (.int .u16 (IntKind.wrap .u16 n))) ∧
  (∀ {q : IntKind} {n : Int}  {S : World → Prop} {k : Value → Prop} (hne : ∃ w, S w), (std Try.prog).stepS S (sConv 25 89 (.int q n)) k = k (.int .u32 (IntKind.wrap .u32 n))) ∧
  (∀ {q : IntKind} {n : Int}  {S : World → Prop} {k : Value → Prop} (hne : ∃ w, S w), (std Try.prog).stepS S (sConv 27 25 (.int q n)) k = k (.int .u64 (IntKind.wrap .u64 n))) ∧
  (∀ {q : IntKind} {n : Int}  {S : World → Prop} {k : Value → Prop} (hne : ∃ w, S w), (std Try.prog).stepS S (sConv 27 5 (.int q n)) k = k (.int .u8 (IntKind.wrap .u8 n))) ∧
  (∀ {q : IntKind} {n : Int}  {S : World → Prop} {k : Value → Prop} (hne : ∃ w, S w), (std Try.prog).stepS S (sConv 3 25 (.int q n)) k = k (.int .u64 (IntKind.wrap .u64 n))) ∧
  (∀ {q : IntKind} {n : Int}  {S : World → Prop} {k : Value → Prop} (hne : ∃ w, S w), (std Try.prog).stepS S (sConv 3 5 (.int q n)) k = k (.int .u8 (IntKind.wrap .u8 n))) ∧
  (∀ {q : IntKind} {n : Int}  {S : World → Prop} {k : Value → Prop} (hne : ∃ w, S w), (std Try.prog).stepS S (sConv 3 70 (.int q n)) k = k (.int .u16 (IntKind.wrap .u16 n))) ∧
  (∀ {q : IntKind} {n : Int}  {S : World → Prop} {k : Value → Prop} (hne : ∃ w, S w), (std Try.prog).stepS S (sConv 3 89 (.int q n)) k = k (.int .u32 (IntKind.wrap .u32 n))) ∧
  (∀ {q : IntKind} {n : Int}  {S : World → Prop} {k : Value → Prop} (hne : ∃ w, S w), (std Try.prog).stepS S (sConv 49 25 (.int q n)) k = k (.int .u64 (IntKind.wrap .u64 n))) ∧
  (∀ {q : IntKind} {n : Int}  {S : World → Prop} {k : Value → Prop} (hne : ∃ w, S w), (std Try.prog).stepS S (sConv 49 5 (.int q n)) k = k (.int .u8 (IntKind.wrap .u8 n))) ∧
  (∀ {q : IntKind} {n : Int}  {S : World → Prop} {k : Value → Prop} (hne : ∃ w, S w), (std Try.prog).stepS S (sConv 5 24 (.int q n)) k = k (.int .i64 (IntKind.wrap .i64 n))) ∧
  (∀ {q : IntKind} {n : Int}  {S : World → Prop} {k : Value → Prop} (hne : ∃ w, S w), (std Try.prog).stepS S (sConv 5 25 (.int q n)) k = k (.int .u64 (IntKind.wrap .u64 n))) ∧
  (∀ {q : IntKind} {n : Int}  {S : World → Prop} {k : Value → Prop} (hne : ∃ w, S w), (std Try.prog).stepS S (sConv 5 27 (.int q n)) k = k (.int .i64 (IntKind.wrap .i64 n))) ∧
  (∀ {q : IntKind} {n : Int}  {S : World → Prop} {k : Value → Prop} (hne : ∃ w, S w), (std Try.prog).stepS S (sConv 5 3 (.int q n)) k = k (.int .i64 (IntKind.wrap .i64 n))) ∧
  (∀ {q : IntKind} {n : Int}  {S : World → Prop} {k : Value → Prop} (hne : ∃ w, S w), (std Try.prog).stepS S (sConv 5 49 (.int q n)) k = k (.int .i64 (IntKind.wrap .i64 n))) ∧
  (∀ {q : IntKind} {n : Int}  {S : World → Prop} {k : Value → Prop} (hne : ∃ w, S w), (std Try.prog).stepS S (sConv 5 89 (.int q n)) k = k (.int .u32 (IntKind.wrap .u32 n))) ∧
  (∀ {q : IntKind} {n : Int}  {S : World → Prop} {k : Value → Prop} (hne : ∃ w, S w), (std Try.prog).stepS S (sConv 70 25 (.int q n)) k = k (.int .u64 (IntKind.wrap .u64 n))) ∧
  (∀ {q : IntKind} {n : Int}  {S : World → Prop} {k : Value → Prop} (hne : ∃ w, S w), (std Try.prog).stepS S (sConv 70 3 (.int q n)) k = k (.int .i64 (IntKind.wrap .i64 n))) ∧
  (∀ {q : IntKind} {n : Int}  {S : World → Prop} {k : Value → Prop} (hne : ∃ w, S w), (std Try.prog).stepS S (sConv 89 25 (.int q n)) k = k (.int .u64 (IntKind.wrap .u64 n))) ∧
  (∀ {q : IntKind} {n : Int}  {S : World → Prop} {k : Value → Prop} (hne : ∃ w, S w), (std Try.prog).stepS S (sConv 89 3 (.int q n)) k = k (.int .i64 (IntKind.wrap .i64 n))) ∧
  (∀ {q : IntKind} {n : Int}  {S : World → Prop} {k : Value → Prop} (hne : ∃ w, S w), (std Try.prog).stepS S (sConv 89 5 (.int q n)) k = k (.int .u8 (IntKind.wrap .u8 n))) ∧
  (∀ {a : Addr}  {S : World → Prop} {k : Value → Prop} (hne : ∃ w, S w), (std Try.prog).stepS S (sFieldAddr 108 (.pointer (some a)) 0) k = k (.pointer (some (a)))) ∧
  (∀ {a : Addr}  {S : World → Prop} {k : Value → Prop} (hne : ∃ w, S w), (std Try.prog).stepS S (sFieldAddr 29 (.pointer (some a)) 0) k = k (.pointer (some (a)))) ∧
  (∀ {a : Addr}  {S : World → Prop} {k : Value → Prop} (hne : ∃ w, S w), (std Try.prog).stepS S (sFieldAddr 29 (.pointer (some a)) 1) k = k (.pointer (some (a.add 1)))) ∧
  (∀ {a : Addr}  {S : World → Prop} {k : Value → Prop} (hne : ∃ w, S w), (std Try.prog).stepS S (sFieldAddr 29 (.pointer (some a)) 2) k = k (.pointer (some (a.add 2)))) ∧
  (∀ {a : Addr}  {S : World → Prop} {k : Value → Prop} (hne : ∃ w, S w), (std Try.prog).stepS S (sFieldAddr 29 (.pointer (some a)) 3) k = k (.pointer (some (a.add 3)))) ∧
  (∀ {a : Addr}  {S : World → Prop} {k : Value → Prop} (hne : ∃ w, S w), (std Try.prog).stepS S (sFieldAddr 33 (.pointer (some a)) 0) k = k (.pointer (some (a)))) ∧
  (∀ {a : Addr}  {S : World → Prop} {k : Value → Prop} (hne : ∃ w, S w), (std Try.prog).stepS S (sFieldAddr 33 (.pointer (some a)) 1) k = k (.pointer (some (a.add 1)))) ∧
  (∀ {a : Addr}  {S : World → Prop} {k : Value → Prop} (hne : ∃ w, S w), (std Try.prog).stepS S (sFieldAddr 33 (.pointer (some a)) 2) k = k (.pointer (some (a.add 2)))) ∧
  (∀ {a : Addr}  {S : World → Prop} {k : Value → Prop} (hne : ∃ w, S w), (std Try.prog).stepS S (sFieldAddr 33 (.pointer (some a)) 3) k = k (.pointer (some (a.add 3)))) ∧
  (∀ {a : Addr}  {S : World → Prop} {k : Value → Prop} (hne : ∃ w, S w), (std Try.prog).stepS S (sFieldAddr 33 (.pointer (some a)) 4) k = k (.pointer (some (a.add 4)))) ∧
  (∀ {a : Addr}  {S : World → Prop} {k : Value → Prop} (hne : ∃ w, S w), (std Try.prog).stepS S (sFieldAddr 33 (.pointer (some a)) 5) k = k (.pointer (some (a.add 5)))) ∧
  (∀ {a : Addr}  {S : World → Prop} {k : Value → Prop} (hne : ∃ w, S w), (std Try.prog).stepS S (sFieldAddr 33 (.pointer (some a)) 6) k = k (.pointer (some (a.add 6)))) ∧
  (∀ {a : Addr}  {S : World → Prop} {k : Value → Prop} (hne : ∃ w, S w), (std Try.prog).stepS S (sFieldAddr 33 (.pointer (some a)) 7) k = k (.pointer (some (a.add 10)))) ∧
  (∀ {a : Addr}  {S : World → Prop} {k : Value → Prop} (hne : ∃ w, S w), (std Try.prog).stepS S (sFieldAddr 33 (.pointer (some a)) 8) k = k (.pointer (some (a.add 11)))) ∧
  (∀ {a : Addr}  {S : World → Prop} {k : Value → Prop} (hne : ∃ w, S w), (std Try.prog).stepS S (sFieldAddr 51 (.pointer (some a)) 0) k = k (.pointer (some (a)))) ∧
  (∀ {a : Addr}  {S : World → Prop} {k : Value → Prop} (hne : ∃ w, S w), (std Try.prog).stepS S (sFieldAddr 51 (.pointer (some a)) 1) k = k (.pointer (some (a.add 1)))) ∧
  (∀ {a : Addr}  {S : World → Prop} {k : Value → Prop} (hne : ∃ w, S w), (std Try.prog).stepS S (sFieldAddr 51 (.pointer (some a)) 2) k = k (.pointer (some (a.add 2)))) ∧
  (∀ {a : Addr}  {S : World → Prop} {k : Value → Prop} (hne : ∃ w, S w), (std Try.prog).stepS S (sFieldAddr 53 (.pointer (some a)) 0) k = k (.pointer (some (a)))) ∧
  (∀ {a : Addr}  {S : World → Prop} {k : Value → Prop} (hne : ∃ w, S w), (std Try.prog).stepS S (sFieldAddr 53 (.pointer (some a)) 1) k = k (.pointer (some (a.add 1)))) ∧
  (∀ {a : Addr}  {S : World → Prop} {k : Value → Prop} (hne : ∃ w, S w), (std Try.prog).stepS S (sFieldAddr 57 (.pointer (some a)) 0) k = k (.pointer (some (a)))) ∧
  (∀ {a : Addr}  {S : World → Prop} {k : Value → Prop} (hne : ∃ w, S w), (std Try.prog).stepS S (sFieldAddr 63 (.pointer (some a)) 0) k = k (.pointer (some (a)))) ∧
  (∀ {a : Addr}  {S : World → Prop} {k : Value → Prop} (hne : ∃ w, S w), (std Try.prog).stepS S (sFieldAddr 63 (.pointer (some a)) 1) k = k (.pointer (some (a.add 1)))) ∧
  (∀ {a : Addr}  {S : World → Prop} {k : Value → Prop} (hne : ∃ w, S w), (std Try.prog).stepS S (sFieldAddr 63 (.pointer (some a)) 2) k = k (.pointer (some (a.add 2)))) ∧
  (∀ {a : Addr}  {S : World → Prop} {k : Value → Prop} (hne : ∃ w, S w), (std Try.prog).stepS S (sFieldAddr 97 (.pointer (some a)) 0) k = k (.pointer (some (a)))) ∧
  (∀ {a : Addr}  {S : World → Prop} {k : Value → Prop} (hne : ∃ w, S w), (std Try.prog).stepS S (sFieldAddr 99 (.pointer (some a)) 0) k = k (.pointer (some (a)))) ∧
  (∀ {a : Addr}  {S : World → Prop} {k : Value → Prop} (hne : ∃ w, S w), (std Try.prog).stepS S (sFieldAddr 99 (.pointer (some a)) 1) k = k (.pointer (some (a.add 1)))) ∧
  (∀ {a : Addr} {i : Nat} (h : i < 16) {S : World → Prop} {k : Value → Prop} (hne : ∃ w, S w), (std Try.prog).stepS S (sIndexAddr 114 (.pointer (some a)) (.int .i64 (i : Nat))) k = k (.pointer (some (a.add (i))))) ∧
  (∀ {a : Addr} {n c i : Nat} (h : i < n) {S : World → Prop} {k : Value → Prop} (hne : ∃ w, S w), (std Try.prog).stepS S (sIndexAddr 22 (.slice (some a) n c) (.int .i64 (i : Nat))) k = k (.pointer (some (a.add (i))))) ∧
  (∀ {a : Addr} {n c i : Nat} (h : i < n) {S : World → Prop} {k : Value → Prop} (hne : ∃ w, S w), (std Try.prog).stepS S (sIndexAddr 30 (.slice (some a) n c) (.int .i64 (i : Nat))) k = k (.pointer (some (a.add (i * 3))))) ∧
  (∀ {a : Addr} {n c i : Nat} (h : i < n) {S : World → Prop} {k : Value → Prop} (hne : ∃ w, S w), (std Try.prog).stepS S (sIndexAddr 31 (.slice (some a) n c) (.int .i64 (i : Nat))) k = k (.pointer (some (a.add (i * 2))))) := ⟨@sx_add, @sx_sub, @sx_mul, @sx_and, @sx_or, @sx_xor, @sx_lss, @sx_leq, @sx_gtr, @sx_geq, @sx_eql, @sx_neq, @sx_quo, @sx_rem, @sx_shl, @sx_shr, @sx_seql, @sx_sneq, @sx_sadd, @sx_not, @sx_neg, @sx_inv, @sx_nilc, @sx_ext20, @sx_ext21, @sx_ext30, @sx_ext31, @sx_ext32, @sx_min, @sx_max, @sx_beql4, @sx_peql60, @sx_neql60, @sx_peql76, @sx_neql76, @sx_len22, @sx_len30, @sx_len31, @sx_len9, @sx_cv24_25, @sx_cv24_5, @sx_cv25_24, @sx_cv25_27, @sx_cv25_3, @sx_cv25_49, @sx_cv25_5, @sx_cv25_70, @sx_cv25_89, @sx_cv27_25, @sx_cv27_5, @sx_cv3_25, @sx_cv3_5, @sx_cv3_70, @sx_cv3_89, @sx_cv49_25, @sx_cv49_5, @sx_cv5_24, @sx_cv5_25, @sx_cv5_27, @sx_cv5_3, @sx_cv5_49, @sx_cv5_89, @sx_cv70_25, @sx_cv70_3, @sx_cv89_25, @sx_cv89_3, @sx_cv89_5, @sx_fa108_0, @sx_fa29_0, @sx_fa29_1, @sx_fa29_2, @sx_fa29_3, @sx_fa33_0, @sx_fa33_1, @sx_fa33_2, @sx_fa33_3, @sx_fa33_4, @sx_fa33_5, @sx_fa33_6, @sx_fa33_7, @sx_fa33_8, @sx_fa51_0, @sx_fa51_1, @sx_fa51_2, @sx_fa53_0, @sx_fa53_1, @sx_fa57_0, @sx_fa63_0, @sx_fa63_1, @sx_fa63_2, @sx_fa97_0, @sx_fa99_0, @sx_fa99_1, @sx_xa114, @sx_ix22, @sx_ix30, @sx_ix31⟩
theorem SLX : (∀ {a : Addr} {v : Value} {S : World → Prop} {k : Value → Prop} (hne : ∃ w, S w) (h : ∀ w, S w → w.cell? a = some v), (std Try.prog).stepS S (sLoad 22 (.pointer (some a))) k = k v) ∧
  (∀ {a : Addr} {v : Value} {S : World → Prop} {k : Value → Prop} (hne : ∃ w, S w) (h : ∀ w, S w → w.cell? a = some v), (std Try.prog).stepS S (sLoad 24 (.pointer (some a))) k = k v) ∧
  (∀ {a : Addr} {v : Value} {S : World → Prop} {k : Value → Prop} (hne : ∃ w, S w) (h : ∀ w, S w → w.cell? a = some v), (std Try.prog).stepS S (sLoad 26 (.pointer (some a))) k = k v) ∧
  (∀ {a : Addr} {v : Value} {S : World → Prop} {k : Value → Prop} (hne : ∃ w, S w) (h : ∀ w, S w → w.cell? a = some v), (std Try.prog).stepS S (sLoad 27 (.pointer (some a))) k = k v) ∧
  (∀ {a : Addr} {v : Value} {S : World → Prop} {k : Value → Prop} (hne : ∃ w, S w) (h : ∀ w, S w → w.cell? a = some v), (std Try.prog).stepS S (sLoad 3 (.pointer (some a))) k = k v) ∧
  (∀ {a : Addr} {v : Value} {S : World → Prop} {k : Value → Prop} (hne : ∃ w, S w) (h : ∀ w, S w → w.cell? a = some v), (std Try.prog).stepS S (sLoad 30 (.pointer (some a))) k = k v) ∧
  (∀ {a : Addr} {v : Value} {S : World → Prop} {k : Value → Prop} (hne : ∃ w, S w) (h : ∀ w, S w → w.cell? a = some v), (std Try.prog).stepS S (sLoad 31 (.pointer (some a))) k = k v) ∧
  (∀ {a : Addr} {v : Value} {S : World → Prop} {k : Value → Prop} (hne : ∃ w, S w) (h : ∀ w, S w → w.cell? a = some v), (std Try.prog).stepS S (sLoad 34 (.pointer (some a))) k = k v) ∧
  (∀ {a : Addr} {v : Value} {S : World → Prop} {k : Value → Prop} (hne : ∃ w, S w) (h : ∀ w, S w → w.cell? a = some v), (std Try.prog).stepS S (sLoad 49 (.pointer (some a))) k = k v) ∧
  (∀ {a : Addr} {v : Value} {S : World → Prop} {k : Value → Prop} (hne : ∃ w, S w) (h : ∀ w, S w → w.cell? a = some v), (std Try.prog).stepS S (sLoad 5 (.pointer (some a))) k = k v) ∧
  (∀ {a : Addr} {v : Value} {S : World → Prop} {k : Value → Prop} (hne : ∃ w, S w) (h : ∀ w, S w → w.cell? a = some v), (std Try.prog).stepS S (sLoad 89 (.pointer (some a))) k = k v) ∧
  (∀ {a : Addr} {v : Value} {S : World → Prop} {k : Value → Prop} (hne : ∃ w, S w) (h : ∀ w, S w → w.cell? a = some v), (std Try.prog).stepS S (sLoad 9 (.pointer (some a))) k = k v) := ⟨@sld22, @sld24, @sld26, @sld27, @sld3, @sld30, @sld31, @sld34, @sld49, @sld5, @sld89, @sld9⟩
theorem LX : (∀ {a : Addr} {v : Value} {w : World} {K : Value → World → Prop} (h : w.cell? a = some v), (std Try.prog).step (sLoad 22 (.pointer (some a))) w K = K v w) ∧
  (∀ {a : Addr} {v : Value} {w : World} {K : Value → World → Prop} (h : w.cell? a = some v), (std Try.prog).step (sLoad 24 (.pointer (some a))) w K = K v w) ∧
  (∀ {a : Addr} {v : Value} {w : World} {K : Value → World → Prop} (h : w.cell? a = some v), (std Try.prog).step (sLoad 26 (.pointer (some a))) w K = K v w) ∧
  (∀ {a : Addr} {v : Value} {w : World} {K : Value → World → Prop} (h : w.cell? a = some v), (std Try.prog).step (sLoad 27 (.pointer (some a))) w K = K v w) ∧
  (∀ {a : Addr} {v : Value} {w : World} {K : Value → World → Prop} (h : w.cell? a = some v), (std Try.prog).step (sLoad 3 (.pointer (some a))) w K = K v w) ∧
  (∀ {a : Addr} {v : Value} {w : World} {K : Value → World → Prop} (h : w.cell? a = some v), (std Try.prog).step (sLoad 30 (.pointer (some a))) w K = K v w) ∧
  (∀ {a : Addr} {v : Value} {w : World} {K : Value → World → Prop} (h : w.cell? a = some v), (std Try.prog).step (sLoad 31 (.pointer (some a))) w K = K v w) ∧
  (∀ {a : Addr} {v : Value} {w : World} {K : Value → World → Prop} (h : w.cell? a = some v), (std Try.prog).step (sLoad 34 (.pointer (some a))) w K = K v w) ∧
  (∀ {a : Addr} {v : Value} {w : World} {K : Value → World → Prop} (h : w.cell? a = some v), (std Try.prog).step (sLoad 49 (.pointer (some a))) w K = K v w) ∧
  (∀ {a : Addr} {v : Value} {w : World} {K : Value → World → Prop} (h : w.cell? a = some v), (std Try.prog).step (sLoad 5 (.pointer (some a))) w K = K v w) ∧
  (∀ {a : Addr} {v : Value} {w : World} {K : Value → World → Prop} (h : w.cell? a = some v), (std Try.prog).step (sLoad 89 (.pointer (some a))) w K = K v w) ∧
  (∀ {a : Addr} {v : Value} {w : World} {K : Value → World → Prop} (h : w.cell? a = some v), (std Try.prog).step (sLoad 9 (.pointer (some a))) w K = K v w) := ⟨@ld22, @ld24, @ld26, @ld27, @ld3, @ld30, @ld31, @ld34, @ld49, @ld5, @ld89, @ld9⟩
theorem BX : (∀ (p : Prop) [Decidable p] (A B : Prop), (std Try.prog).bool (.bool (decide p)) A B = ((p → A) ∧ (¬ p → B))) ∧ (∀ (A B : Prop), (std Try.prog).bool (.bool true) A B = A) ∧ (∀ (A B : Prop), (std Try.prog).bool (.bool false) A B = B) ∧ (∀ (b : Bool) (A B : Prop), (std Try.prog).bool (.bool (!b)) A B = (std Try.prog).bool (.bool b) B A) := ⟨fun p => bool_dec p, bool_true, bool_false, bool_not⟩
end Go.Proofs.Ytconmaojfkmlnaa
