/- Closed facts about the types of the program, and the rules for the steps at these types. Written by a program of this work. -/
import Derived.Test.YtnghnolpohahpaaRf
import Derived.Test.YtnghnolpohahpaaProg
import Derived.KernelRfl
namespace Go.Proofs.Ytnghnolpohahpaa
open Go Xf
set_option linter.unusedVariables false
set_option maxRecDepth 100000

-- 2: int64
theorem u2 : Try.prog.underlying 2 = some (.int .i64) := by kernel_rfl
theorem ag2 : (Try.prog.underlying 2).map isAggD = some false := by kernel_rfl
theorem sz2 : (Try.prog.info? 2).map (·.size) = some 1 := by kernel_rfl
theorem ze2 : (Try.prog.info? 2).bind (·.zero) = some (.int .i64 0) := by kernel_rfl
theorem inf2 : ∃ i, Try.prog.info? 2 = some i ∧ i.zero = some (.int .i64 0) ∧ i.size = 1 ∧ i.bytes = 8 := info_parts (by kernel_rfl : (Try.prog.info? 2).map (fun i => (i.zero, i.size, i.bytes)) = some (some (.int .i64 0), 1, 8))
-- 3: int
theorem u3 : Try.prog.underlying 3 = some (.int .i64) := by kernel_rfl
theorem ag3 : (Try.prog.underlying 3).map isAggD = some false := by kernel_rfl
theorem sz3 : (Try.prog.info? 3).map (·.size) = some 1 := by kernel_rfl
theorem ze3 : (Try.prog.info? 3).bind (·.zero) = some (.int .i64 0) := by kernel_rfl
theorem inf3 : ∃ i, Try.prog.info? 3 = some i ∧ i.zero = some (.int .i64 0) ∧ i.size = 1 ∧ i.bytes = 8 := info_parts (by kernel_rfl : (Try.prog.info? 3).map (fun i => (i.zero, i.size, i.bytes)) = some (some (.int .i64 0), 1, 8))
-- 4: bool
theorem u4 : Try.prog.underlying 4 = some (.bool) := by kernel_rfl
theorem ag4 : (Try.prog.underlying 4).map isAggD = some false := by kernel_rfl
theorem sz4 : (Try.prog.info? 4).map (·.size) = some 1 := by kernel_rfl
theorem ze4 : (Try.prog.info? 4).bind (·.zero) = some (.bool false) := by kernel_rfl
theorem inf4 : ∃ i, Try.prog.info? 4 = some i ∧ i.zero = some (.bool false) ∧ i.size = 1 ∧ i.bytes = 1 := info_parts (by kernel_rfl : (Try.prog.info? 4).map (fun i => (i.zero, i.size, i.bytes)) = some (some (.bool false), 1, 1))
-- 22: []api.Frame
theorem u22 : Try.prog.underlying 22 = some (.slice 31) := by kernel_rfl
theorem ag22 : (Try.prog.underlying 22).map isAggD = some false := by kernel_rfl
theorem sz22 : (Try.prog.info? 22).map (·.size) = some 1 := by kernel_rfl
theorem ze22 : (Try.prog.info? 22).bind (·.zero) = some (.slice none 0 0) := by kernel_rfl
theorem inf22 : ∃ i, Try.prog.info? 22 = some i ∧ i.zero = some (.slice none 0 0) ∧ i.size = 1 ∧ i.bytes = 24 := info_parts (by kernel_rfl : (Try.prog.info? 22).map (fun i => (i.zero, i.size, i.bytes)) = some (some (.slice none 0 0), 1, 24))
-- 23: struct { Frames []api.Frame; Hand int }
theorem ag23 : (Try.prog.underlying 23).map isAggD = some true := by kernel_rfl
theorem sz23 : (Try.prog.info? 23).map (·.size) = some 2 := by kernel_rfl
theorem ze23 : (Try.prog.info? 23).bind (·.zero) = some (.agg #[.slice none 0 0, .int .i64 0]) := by kernel_rfl
theorem inf23 : ∃ i, Try.prog.info? 23 = some i ∧ i.zero = some (.agg #[.slice none 0 0, .int .i64 0]) ∧ i.size = 2 ∧ i.bytes = 32 := info_parts (by kernel_rfl : (Try.prog.info? 23).map (fun i => (i.zero, i.size, i.bytes)) = some (some (.agg #[.slice none 0 0, .int .i64 0]), 2, 32))
-- 24: api.Ring
theorem ag24 : (Try.prog.underlying 24).map isAggD = some true := by kernel_rfl
theorem sz24 : (Try.prog.info? 24).map (·.size) = some 2 := by kernel_rfl
theorem ze24 : (Try.prog.info? 24).bind (·.zero) = some (.agg #[.slice none 0 0, .int .i64 0]) := by kernel_rfl
theorem inf24 : ∃ i, Try.prog.info? 24 = some i ∧ i.zero = some (.agg #[.slice none 0 0, .int .i64 0]) ∧ i.size = 2 ∧ i.bytes = 32 := info_parts (by kernel_rfl : (Try.prog.info? 24).map (fun i => (i.zero, i.size, i.bytes)) = some (some (.agg #[.slice none 0 0, .int .i64 0]), 2, 32))
-- 25: api.Errno
theorem u25 : Try.prog.underlying 25 = some (.int .i64) := by kernel_rfl
theorem ag25 : (Try.prog.underlying 25).map isAggD = some false := by kernel_rfl
theorem sz25 : (Try.prog.info? 25).map (·.size) = some 1 := by kernel_rfl
theorem ze25 : (Try.prog.info? 25).bind (·.zero) = some (.int .i64 0) := by kernel_rfl
theorem inf25 : ∃ i, Try.prog.info? 25 = some i ∧ i.zero = some (.int .i64 0) ∧ i.size = 1 ∧ i.bytes = 8 := info_parts (by kernel_rfl : (Try.prog.info? 25).map (fun i => (i.zero, i.size, i.bytes)) = some (some (.int .i64 0), 1, 8))
-- 30: struct { Page int; Used bool; Pins int }
theorem ag30 : (Try.prog.underlying 30).map isAggD = some true := by kernel_rfl
theorem sz30 : (Try.prog.info? 30).map (·.size) = some 3 := by kernel_rfl
theorem ze30 : (Try.prog.info? 30).bind (·.zero) = some (.agg #[.int .i64 0, .bool false, .int .i64 0]) := by kernel_rfl
theorem inf30 : ∃ i, Try.prog.info? 30 = some i ∧ i.zero = some (.agg #[.int .i64 0, .bool false, .int .i64 0]) ∧ i.size = 3 ∧ i.bytes = 24 := info_parts (by kernel_rfl : (Try.prog.info? 30).map (fun i => (i.zero, i.size, i.bytes)) = some (some (.agg #[.int .i64 0, .bool false, .int .i64 0]), 3, 24))
-- 31: api.Frame
theorem ag31 : (Try.prog.underlying 31).map isAggD = some true := by kernel_rfl
theorem sz31 : (Try.prog.info? 31).map (·.size) = some 3 := by kernel_rfl
theorem ze31 : (Try.prog.info? 31).bind (·.zero) = some (.agg #[.int .i64 0, .bool false, .int .i64 0]) := by kernel_rfl
theorem inf31 : ∃ i, Try.prog.info? 31 = some i ∧ i.zero = some (.agg #[.int .i64 0, .bool false, .int .i64 0]) ∧ i.size = 3 ∧ i.bytes = 24 := info_parts (by kernel_rfl : (Try.prog.info? 31).map (fun i => (i.zero, i.size, i.bytes)) = some (some (.agg #[.int .i64 0, .bool false, .int .i64 0]), 3, 24))
-- 33: struct { Kind int; Page int; N int }
theorem ag33 : (Try.prog.underlying 33).map isAggD = some true := by kernel_rfl
theorem sz33 : (Try.prog.info? 33).map (·.size) = some 3 := by kernel_rfl
theorem ze33 : (Try.prog.info? 33).bind (·.zero) = some (.agg #[.int .i64 0, .int .i64 0, .int .i64 0]) := by kernel_rfl
theorem inf33 : ∃ i, Try.prog.info? 33 = some i ∧ i.zero = some (.agg #[.int .i64 0, .int .i64 0, .int .i64 0]) ∧ i.size = 3 ∧ i.bytes = 24 := info_parts (by kernel_rfl : (Try.prog.info? 33).map (fun i => (i.zero, i.size, i.bytes)) = some (some (.agg #[.int .i64 0, .int .i64 0, .int .i64 0]), 3, 24))
-- 34: flotillalaw14.Op
theorem ag34 : (Try.prog.underlying 34).map isAggD = some true := by kernel_rfl
theorem sz34 : (Try.prog.info? 34).map (·.size) = some 3 := by kernel_rfl
theorem ze34 : (Try.prog.info? 34).bind (·.zero) = some (.agg #[.int .i64 0, .int .i64 0, .int .i64 0]) := by kernel_rfl
theorem inf34 : ∃ i, Try.prog.info? 34 = some i ∧ i.zero = some (.agg #[.int .i64 0, .int .i64 0, .int .i64 0]) ∧ i.size = 3 ∧ i.bytes = 24 := info_parts (by kernel_rfl : (Try.prog.info? 34).map (fun i => (i.zero, i.size, i.bytes)) = some (some (.agg #[.int .i64 0, .int .i64 0, .int .i64 0]), 3, 24))
-- 40: []flotillalaw14.Op
theorem u40 : Try.prog.underlying 40 = some (.slice 34) := by kernel_rfl
theorem ag40 : (Try.prog.underlying 40).map isAggD = some false := by kernel_rfl
theorem sz40 : (Try.prog.info? 40).map (·.size) = some 1 := by kernel_rfl
theorem ze40 : (Try.prog.info? 40).bind (·.zero) = some (.slice none 0 0) := by kernel_rfl
theorem inf40 : ∃ i, Try.prog.info? 40 = some i ∧ i.zero = some (.slice none 0 0) ∧ i.size = 1 ∧ i.bytes = 24 := info_parts (by kernel_rfl : (Try.prog.info? 40).map (fun i => (i.zero, i.size, i.bytes)) = some (some (.slice none 0 0), 1, 24))
-- 46: []int
theorem u46 : Try.prog.underlying 46 = some (.slice 3) := by kernel_rfl
theorem ag46 : (Try.prog.underlying 46).map isAggD = some false := by kernel_rfl
theorem sz46 : (Try.prog.info? 46).map (·.size) = some 1 := by kernel_rfl
theorem ze46 : (Try.prog.info? 46).bind (·.zero) = some (.slice none 0 0) := by kernel_rfl
theorem inf46 : ∃ i, Try.prog.info? 46 = some i ∧ i.zero = some (.slice none 0 0) ∧ i.size = 1 ∧ i.bytes = 24 := info_parts (by kernel_rfl : (Try.prog.info? 46).map (fun i => (i.zero, i.size, i.bytes)) = some (some (.slice none 0 0), 1, 24))
-- 50: [16]bool
theorem u50 : Try.prog.underlying 50 = some (.array 16 4) := by kernel_rfl
theorem ag50 : (Try.prog.underlying 50).map isAggD = some true := by kernel_rfl
theorem sz50 : (Try.prog.info? 50).map (·.size) = some 16 := by kernel_rfl
theorem ze50 : (Try.prog.info? 50).bind (·.zero) = some (.agg #[.bool false, .bool false, .bool false, .bool false, .bool false, .bool false, .bool false, .bool false, .bool false, .bool false, .bool false, .bool false, .bool false, .bool false, .bool false, .bool false]) := by kernel_rfl
theorem inf50 : ∃ i, Try.prog.info? 50 = some i ∧ i.zero = some (.agg #[.bool false, .bool false, .bool false, .bool false, .bool false, .bool false, .bool false, .bool false, .bool false, .bool false, .bool false, .bool false, .bool false, .bool false, .bool false, .bool false]) ∧ i.size = 16 ∧ i.bytes = 16 := info_parts (by kernel_rfl : (Try.prog.info? 50).map (fun i => (i.zero, i.size, i.bytes)) = some (some (.agg #[.bool false, .bool false, .bool false, .bool false, .bool false, .bool false, .bool false, .bool false, .bool false, .bool false, .bool false, .bool false, .bool false, .bool false, .bool false, .bool false]), 16, 16))
-- 54: *api.Frame
theorem u54 : Try.prog.underlying 54 = some (.pointer 31) := by kernel_rfl
theorem ag54 : (Try.prog.underlying 54).map isAggD = some false := by kernel_rfl
theorem sz54 : (Try.prog.info? 54).map (·.size) = some 1 := by kernel_rfl
theorem ze54 : (Try.prog.info? 54).bind (·.zero) = some (.pointer none) := by kernel_rfl
theorem inf54 : ∃ i, Try.prog.info? 54 = some i ∧ i.zero = some (.pointer none) ∧ i.size = 1 ∧ i.bytes = 8 := info_parts (by kernel_rfl : (Try.prog.info? 54).map (fun i => (i.zero, i.size, i.bytes)) = some (some (.pointer none), 1, 8))

theorem rfa24_0 {a : Addr} {w : World} : (sFieldAddr 24 (.pointer (some a)) 0).run Try.prog w = .ok (.value (.pointer (some (a)))) w := by kernel_rfl
theorem rfa24_1 {a : Addr} {w : World} : (sFieldAddr 24 (.pointer (some a)) 1).run Try.prog w = .ok (.value (.pointer (some (a.add 1)))) w := by kernel_rfl
theorem rfa31_0 {a : Addr} {w : World} : (sFieldAddr 31 (.pointer (some a)) 0).run Try.prog w = .ok (.value (.pointer (some (a)))) w := by kernel_rfl
theorem rfa31_1 {a : Addr} {w : World} : (sFieldAddr 31 (.pointer (some a)) 1).run Try.prog w = .ok (.value (.pointer (some (a.add 1)))) w := by kernel_rfl
theorem rfa31_2 {a : Addr} {w : World} : (sFieldAddr 31 (.pointer (some a)) 2).run Try.prog w = .ok (.value (.pointer (some (a.add 2)))) w := by kernel_rfl
theorem rfa34_0 {a : Addr} {w : World} : (sFieldAddr 34 (.pointer (some a)) 0).run Try.prog w = .ok (.value (.pointer (some (a)))) w := by kernel_rfl
theorem rfa34_1 {a : Addr} {w : World} : (sFieldAddr 34 (.pointer (some a)) 1).run Try.prog w = .ok (.value (.pointer (some (a.add 1)))) w := by kernel_rfl
theorem rfa34_2 {a : Addr} {w : World} : (sFieldAddr 34 (.pointer (some a)) 2).run Try.prog w = .ok (.value (.pointer (some (a.add 2)))) w := by kernel_rfl
theorem ld22 {a : Addr} {v : Value} {w : World} {K : Value → World → Prop} (h : w.cell? a = some v) : (std Try.prog).step (sLoad 22 (.pointer (some a))) w K = K v w := step_run (run_sLoad (run_loadVar1 ag22 h))
theorem sld22 {a : Addr} {v : Value} {S : World → Prop} {k : Value → Prop} (hne : ∃ w, S w) (h : ∀ w, S w → w.cell? a = some v) : (std Try.prog).stepS S (sLoad 22 (.pointer (some a))) k = k v := stepS_run hne fun w hw => run_sLoad (run_loadVar1 ag22 (h w hw))
theorem ld3 {a : Addr} {v : Value} {w : World} {K : Value → World → Prop} (h : w.cell? a = some v) : (std Try.prog).step (sLoad 3 (.pointer (some a))) w K = K v w := step_run (run_sLoad (run_loadVar1 ag3 h))
theorem sld3 {a : Addr} {v : Value} {S : World → Prop} {k : Value → Prop} (hne : ∃ w, S w) (h : ∀ w, S w → w.cell? a = some v) : (std Try.prog).stepS S (sLoad 3 (.pointer (some a))) k = k v := stepS_run hne fun w hw => run_sLoad (run_loadVar1 ag3 (h w hw))
theorem ld4 {a : Addr} {v : Value} {w : World} {K : Value → World → Prop} (h : w.cell? a = some v) : (std Try.prog).step (sLoad 4 (.pointer (some a))) w K = K v w := step_run (run_sLoad (run_loadVar1 ag4 h))
theorem sld4 {a : Addr} {v : Value} {S : World → Prop} {k : Value → Prop} (hne : ∃ w, S w) (h : ∀ w, S w → w.cell? a = some v) : (std Try.prog).stepS S (sLoad 4 (.pointer (some a))) k = k v := stepS_run hne fun w hw => run_sLoad (run_loadVar1 ag4 (h w hw))
theorem px_add {t : TypeId} {x y : Operand} {q : IntKind} {a b : Int}  {w : World} {K : Value → World → Prop} : (std Try.prog).step (sBin .add t x y (.int q a) (.int q b)) w K = K (.int q (q.wrap (a + b))) w := step_run (r_add)
theorem sx_add {t : TypeId} {x y : Operand} {q : IntKind} {a b : Int}  {S : World → Prop} {k : Value → Prop} (hne : ∃ w, S w) : (std Try.prog).stepS S (sBin .add t x y (.int q a) (.int q b)) k = k (.int q (q.wrap (a + b))) := stepS_run hne fun _ _ => r_add
theorem px_sub {t : TypeId} {x y : Operand} {q : IntKind} {a b : Int}  {w : World} {K : Value → World → Prop} : (std Try.prog).step (sBin .sub t x y (.int q a) (.int q b)) w K = K (.int q (q.wrap (a - b))) w := step_run (r_sub)
theorem sx_sub {t : TypeId} {x y : Operand} {q : IntKind} {a b : Int}  {S : World → Prop} {k : Value → Prop} (hne : ∃ w, S w) : (std Try.prog).stepS S (sBin .sub t x y (.int q a) (.int q b)) k = k (.int q (q.wrap (a - b))) := stepS_run hne fun _ _ => r_sub
theorem px_mul {t : TypeId} {x y : Operand} {q : IntKind} {a b : Int}  {w : World} {K : Value → World → Prop} : (std Try.prog).step (sBin .mul t x y (.int q a) (.int q b)) w K = K (.int q (q.wrap (a * b))) w := step_run (r_mul)
theorem sx_mul {t : TypeId} {x y : Operand} {q : IntKind} {a b : Int}  {S : World → Prop} {k : Value → Prop} (hne : ∃ w, S w) : (std Try.prog).stepS S (sBin .mul t x y (.int q a) (.int q b)) k = k (.int q (q.wrap (a * b))) := stepS_run hne fun _ _ => r_mul
theorem px_and {t : TypeId} {x y : Operand} {q : IntKind} {a b : Int}  {w : World} {K : Value → World → Prop} : (std Try.prog).step (sBin .and t x y (.int q a) (.int q b)) w K = K (.int q (bitOp .and q a b)) w := step_run (r_and)
theorem sx_and {t : TypeId} {x y : Operand} {q : IntKind} {a b : Int}  {S : World → Prop} {k : Value → Prop} (hne : ∃ w, S w) : (std Try.prog).stepS S (sBin .and t x y (.int q a) (.int q b)) k = k (.int q (bitOp .and q a b)) := stepS_run hne fun _ _ => r_and
theorem px_or {t : TypeId} {x y : Operand} {q : IntKind} {a b : Int}  {w : World} {K : Value → World → Prop} : (std Try.prog).step (sBin .or t x y (.int q a) (.int q b)) w K = K (.int q (bitOp .or q a b)) w := step_run (r_or)
theorem sx_or {t : TypeId} {x y : Operand} {q : IntKind} {a b : Int}  {S : World → Prop} {k : Value → Prop} (hne : ∃ w, S w) : (std Try.prog).stepS S (sBin .or t x y (.int q a) (.int q b)) k = k (.int q (bitOp .or q a b)) := stepS_run hne fun _ _ => r_or
theorem px_xor {t : TypeId} {x y : Operand} {q : IntKind} {a b : Int}  {w : World} {K : Value → World → Prop} : (std Try.prog).step (sBin .xor t x y (.int q a) (.int q b)) w K = K (.int q (bitOp .xor q a b)) w := step_run (r_xor)
theorem sx_xor {t : TypeId} {x y : Operand} {q : IntKind} {a b : Int}  {S : World → Prop} {k : Value → Prop} (hne : ∃ w, S w) : (std Try.prog).stepS S (sBin .xor t x y (.int q a) (.int q b)) k = k (.int q (bitOp .xor q a b)) := stepS_run hne fun _ _ => r_xor
theorem px_lss {t : TypeId} {x y : Operand} {q : IntKind} {a b : Int}  {w : World} {K : Value → World → Prop} : (std Try.prog).step (sBin .lss t x y (.int q a) (.int q b)) w K = K (.bool (decide (a < b))) w := step_run (r_lss)
theorem sx_lss {t : TypeId} {x y : Operand} {q : IntKind} {a b : Int}  {S : World → Prop} {k : Value → Prop} (hne : ∃ w, S w) : (std Try.prog).stepS S (sBin .lss t x y (.int q a) (.int q b)) k = k (.bool (decide (a < b))) := stepS_run hne fun _ _ => r_lss
theorem px_leq {t : TypeId} {x y : Operand} {q : IntKind} {a b : Int}  {w : World} {K : Value → World → Prop} : (std Try.prog).step (sBin .leq t x y (.int q a) (.int q b)) w K = K (.bool (decide (a ≤ b))) w := step_run (r_leq)
theorem sx_leq {t : TypeId} {x y : Operand} {q : IntKind} {a b : Int}  {S : World → Prop} {k : Value → Prop} (hne : ∃ w, S w) : (std Try.prog).stepS S (sBin .leq t x y (.int q a) (.int q b)) k = k (.bool (decide (a ≤ b))) := stepS_run hne fun _ _ => r_leq
theorem px_gtr {t : TypeId} {x y : Operand} {q : IntKind} {a b : Int}  {w : World} {K : Value → World → Prop} : (std Try.prog).step (sBin .gtr t x y (.int q a) (.int q b)) w K = K (.bool (decide (b < a))) w := step_run (r_gtr)
theorem sx_gtr {t : TypeId} {x y : Operand} {q : IntKind} {a b : Int}  {S : World → Prop} {k : Value → Prop} (hne : ∃ w, S w) : (std Try.prog).stepS S (sBin .gtr t x y (.int q a) (.int q b)) k = k (.bool (decide (b < a))) := stepS_run hne fun _ _ => r_gtr
theorem px_geq {t : TypeId} {x y : Operand} {q : IntKind} {a b : Int}  {w : World} {K : Value → World → Prop} : (std Try.prog).step (sBin .geq t x y (.int q a) (.int q b)) w K = K (.bool (decide (b ≤ a))) w := step_run (r_geq)
theorem sx_geq {t : TypeId} {x y : Operand} {q : IntKind} {a b : Int}  {S : World → Prop} {k : Value → Prop} (hne : ∃ w, S w) : (std Try.prog).stepS S (sBin .geq t x y (.int q a) (.int q b)) k = k (.bool (decide (b ≤ a))) := stepS_run hne fun _ _ => r_geq
theorem px_eql {t : TypeId} {x y : Operand} {q : IntKind} {a b : Int}  {w : World} {K : Value → World → Prop} : (std Try.prog).step (sBin .eql t x y (.int q a) (.int q b)) w K = K (.bool (decide (a = b))) w := step_run (r_eql)
theorem sx_eql {t : TypeId} {x y : Operand} {q : IntKind} {a b : Int}  {S : World → Prop} {k : Value → Prop} (hne : ∃ w, S w) : (std Try.prog).stepS S (sBin .eql t x y (.int q a) (.int q b)) k = k (.bool (decide (a = b))) := stepS_run hne fun _ _ => r_eql
theorem px_neq {t : TypeId} {x y : Operand} {q : IntKind} {a b : Int}  {w : World} {K : Value → World → Prop} : (std Try.prog).step (sBin .neq t x y (.int q a) (.int q b)) w K = K (.bool (decide (a ≠ b))) w := step_run (r_neq)
theorem sx_neq {t : TypeId} {x y : Operand} {q : IntKind} {a b : Int}  {S : World → Prop} {k : Value → Prop} (hne : ∃ w, S w) : (std Try.prog).stepS S (sBin .neq t x y (.int q a) (.int q b)) k = k (.bool (decide (a ≠ b))) := stepS_run hne fun _ _ => r_neq
theorem px_quo {t : TypeId} {x y : Operand} {q : IntKind} {a b : Int} (h : b ≠ 0) {w : World} {K : Value → World → Prop} : (std Try.prog).step (sBin .quo t x y (.int q a) (.int q b)) w K = K (.int q (q.wrap (a.tdiv b))) w := step_run (r_quo h)
theorem sx_quo {t : TypeId} {x y : Operand} {q : IntKind} {a b : Int} (h : b ≠ 0) {S : World → Prop} {k : Value → Prop} (hne : ∃ w, S w) : (std Try.prog).stepS S (sBin .quo t x y (.int q a) (.int q b)) k = k (.int q (q.wrap (a.tdiv b))) := stepS_run hne fun _ _ => r_quo h
theorem px_rem {t : TypeId} {x y : Operand} {q : IntKind} {a b : Int} (h : b ≠ 0) {w : World} {K : Value → World → Prop} : (std Try.prog).step (sBin .rem t x y (.int q a) (.int q b)) w K = K (.int q (a.tmod b)) w := step_run (r_rem h)
theorem sx_rem {t : TypeId} {x y : Operand} {q : IntKind} {a b : Int} (h : b ≠ 0) {S : World → Prop} {k : Value → Prop} (hne : ∃ w, S w) : (std Try.prog).stepS S (sBin .rem t x y (.int q a) (.int q b)) k = k (.int q (a.tmod b)) := stepS_run hne fun _ _ => r_rem h
theorem px_shl {t : TypeId} {x y : Operand} {q q' : IntKind} {a b : Int} (h : ¬ b < 0) {w : World} {K : Value → World → Prop} : (std Try.prog).step (sBin .shl t x y (.int q a) (.int q' b)) w K = K (.int q (q.wrap (a * 2 ^ (min b.toNat q.bits)))) w := step_run (r_shl h)
theorem sx_shl {t : TypeId} {x y : Operand} {q q' : IntKind} {a b : Int} (h : ¬ b < 0) {S : World → Prop} {k : Value → Prop} (hne : ∃ w, S w) : (std Try.prog).stepS S (sBin .shl t x y (.int q a) (.int q' b)) k = k (.int q (q.wrap (a * 2 ^ (min b.toNat q.bits)))) := stepS_run hne fun _ _ => r_shl h
theorem px_shr {t : TypeId} {x y : Operand} {q q' : IntKind} {a b : Int} (h : ¬ b < 0) {w : World} {K : Value → World → Prop} : (std Try.prog).step (sBin .shr t x y (.int q a) (.int q' b)) w K = K (.int q (a.fdiv (2 ^ (min b.toNat q.bits)))) w := step_run (r_shr h)
theorem sx_shr {t : TypeId} {x y : Operand} {q q' : IntKind} {a b : Int} (h : ¬ b < 0) {S : World → Prop} {k : Value → Prop} (hne : ∃ w, S w) : (std Try.prog).stepS S (sBin .shr t x y (.int q a) (.int q' b)) k = k (.int q (a.fdiv (2 ^ (min b.toNat q.bits)))) := stepS_run hne fun _ _ => r_shr h
theorem px_seql {t : TypeId} {x y : Operand} {a b : ByteArray}  {w : World} {K : Value → World → Prop} : (std Try.prog).step (sBin .eql t x y (.string a) (.string b)) w K = K (.bool (decide (a = b))) w := step_run (r_seql)
theorem sx_seql {t : TypeId} {x y : Operand} {a b : ByteArray}  {S : World → Prop} {k : Value → Prop} (hne : ∃ w, S w) : (std Try.prog).stepS S (sBin .eql t x y (.string a) (.string b)) k = k (.bool (decide (a = b))) := stepS_run hne fun _ _ => r_seql
theorem px_sneq {t : TypeId} {x y : Operand} {a b : ByteArray}  {w : World} {K : Value → World → Prop} : (std Try.prog).step (sBin .neq t x y (.string a) (.string b)) w K = K (.bool (!decide (a = b))) w := step_run (r_sneq)
theorem sx_sneq {t : TypeId} {x y : Operand} {a b : ByteArray}  {S : World → Prop} {k : Value → Prop} (hne : ∃ w, S w) : (std Try.prog).stepS S (sBin .neq t x y (.string a) (.string b)) k = k (.bool (!decide (a = b))) := stepS_run hne fun _ _ => r_sneq
theorem px_sadd {t : TypeId} {x y : Operand} {a b : ByteArray} (h : a.size + b.size ≤ 9223372036854775807) {w : World} {K : Value → World → Prop} : (std Try.prog).step (sBin .add t x y (.string a) (.string b)) w K = K (.string (a ++ b)) w := step_run (r_sadd h)
theorem sx_sadd {t : TypeId} {x y : Operand} {a b : ByteArray} (h : a.size + b.size ≤ 9223372036854775807) {S : World → Prop} {k : Value → Prop} (hne : ∃ w, S w) : (std Try.prog).stepS S (sBin .add t x y (.string a) (.string b)) k = k (.string (a ++ b)) := stepS_run hne fun _ _ => r_sadd h
theorem px_not {b : Bool}  {w : World} {K : Value → World → Prop} : (std Try.prog).step (sUn .not (.bool b)) w K = K (.bool (!b)) w := step_run (r_not)
theorem sx_not {b : Bool}  {S : World → Prop} {k : Value → Prop} (hne : ∃ w, S w) : (std Try.prog).stepS S (sUn .not (.bool b)) k = k (.bool (!b)) := stepS_run hne fun _ _ => r_not
theorem px_neg {q : IntKind} {a : Int}  {w : World} {K : Value → World → Prop} : (std Try.prog).step (sUn .neg (.int q a)) w K = K (.int q (q.wrap (0 - a))) w := step_run (r_neg)
theorem sx_neg {q : IntKind} {a : Int}  {S : World → Prop} {k : Value → Prop} (hne : ∃ w, S w) : (std Try.prog).stepS S (sUn .neg (.int q a)) k = k (.int q (q.wrap (0 - a))) := stepS_run hne fun _ _ => r_neg
theorem px_inv {q : IntKind} {a : Int}  {w : World} {K : Value → World → Prop} : (std Try.prog).step (sUn .xor (.int q a)) w K = K (.int q (bitOp .xor q (if q.signed then -1 else q.max) a)) w := step_run (r_inv)
theorem sx_inv {q : IntKind} {a : Int}  {S : World → Prop} {k : Value → Prop} (hne : ∃ w, S w) : (std Try.prog).stepS S (sUn .xor (.int q a)) k = k (.int q (bitOp .xor q (if q.signed then -1 else q.max) a)) := stepS_run hne fun _ _ => r_inv
theorem px_nilc {a : Addr}  {w : World} {K : Value → World → Prop} : (std Try.prog).step (sNil (.pointer (some a))) w K = K (.pointer (some a)) w := step_run (r_nil)
theorem sx_nilc {a : Addr}  {S : World → Prop} {k : Value → Prop} (hne : ∃ w, S w) : (std Try.prog).stepS S (sNil (.pointer (some a))) k = k (.pointer (some a)) := stepS_run hne fun _ _ => r_nil
theorem px_ext20 {a b : Value}  {w : World} {K : Value → World → Prop} : (std Try.prog).step (sExtract (.tuple #[a, b]) 0) w K = K (a) w := step_run (r_ext20)
theorem sx_ext20 {a b : Value}  {S : World → Prop} {k : Value → Prop} (hne : ∃ w, S w) : (std Try.prog).stepS S (sExtract (.tuple #[a, b]) 0) k = k (a) := stepS_run hne fun _ _ => r_ext20
theorem px_ext21 {a b : Value}  {w : World} {K : Value → World → Prop} : (std Try.prog).step (sExtract (.tuple #[a, b]) 1) w K = K (b) w := step_run (r_ext21)
theorem sx_ext21 {a b : Value}  {S : World → Prop} {k : Value → Prop} (hne : ∃ w, S w) : (std Try.prog).stepS S (sExtract (.tuple #[a, b]) 1) k = k (b) := stepS_run hne fun _ _ => r_ext21
theorem px_ext30 {a b c : Value}  {w : World} {K : Value → World → Prop} : (std Try.prog).step (sExtract (.tuple #[a, b, c]) 0) w K = K (a) w := step_run (r_ext30)
theorem sx_ext30 {a b c : Value}  {S : World → Prop} {k : Value → Prop} (hne : ∃ w, S w) : (std Try.prog).stepS S (sExtract (.tuple #[a, b, c]) 0) k = k (a) := stepS_run hne fun _ _ => r_ext30
theorem px_ext31 {a b c : Value}  {w : World} {K : Value → World → Prop} : (std Try.prog).step (sExtract (.tuple #[a, b, c]) 1) w K = K (b) w := step_run (r_ext31)
theorem sx_ext31 {a b c : Value}  {S : World → Prop} {k : Value → Prop} (hne : ∃ w, S w) : (std Try.prog).stepS S (sExtract (.tuple #[a, b, c]) 1) k = k (b) := stepS_run hne fun _ _ => r_ext31
theorem px_ext32 {a b c : Value}  {w : World} {K : Value → World → Prop} : (std Try.prog).step (sExtract (.tuple #[a, b, c]) 2) w K = K (c) w := step_run (r_ext32)
theorem sx_ext32 {a b c : Value}  {S : World → Prop} {k : Value → Prop} (hne : ∃ w, S w) : (std Try.prog).stepS S (sExtract (.tuple #[a, b, c]) 2) k = k (c) := stepS_run hne fun _ _ => r_ext32
theorem px_min {ats : Array TypeId} {ty : TypeId} {c : List Bool} {q : IntKind} {a b : Int}  {w : World} {K : Value → World → Prop} : (std Try.prog).step (sBuiltin .min ats ty c [.int q a, .int q b]) w K = K (.int q (if b < a then b else a)) w := step_run (r_min)
theorem sx_min {ats : Array TypeId} {ty : TypeId} {c : List Bool} {q : IntKind} {a b : Int}  {S : World → Prop} {k : Value → Prop} (hne : ∃ w, S w) : (std Try.prog).stepS S (sBuiltin .min ats ty c [.int q a, .int q b]) k = k (.int q (if b < a then b else a)) := stepS_run hne fun _ _ => r_min
theorem px_max {ats : Array TypeId} {ty : TypeId} {c : List Bool} {q : IntKind} {a b : Int}  {w : World} {K : Value → World → Prop} : (std Try.prog).step (sBuiltin .max ats ty c [.int q a, .int q b]) w K = K (.int q (if a < b then b else a)) w := step_run (r_max)
theorem sx_max {ats : Array TypeId} {ty : TypeId} {c : List Bool} {q : IntKind} {a b : Int}  {S : World → Prop} {k : Value → Prop} (hne : ∃ w, S w) : (std Try.prog).stepS S (sBuiltin .max ats ty c [.int q a, .int q b]) k = k (.int q (if a < b then b else a)) := stepS_run hne fun _ _ => r_max
theorem px_beql4 {x y : Operand} {a b : Bool}  {w : World} {K : Value → World → Prop} : (std Try.prog).step (sBin .eql 4 x y (.bool a) (.bool b)) w K = K (.bool (a == b)) w := step_run (r_beql u4)
theorem sx_beql4 {x y : Operand} {a b : Bool}  {S : World → Prop} {k : Value → Prop} (hne : ∃ w, S w) : (std Try.prog).stepS S (sBin .eql 4 x y (.bool a) (.bool b)) k = k (.bool (a == b)) := stepS_run hne fun _ _ => r_beql u4
theorem px_len22 {ty : TypeId} {c : List Bool} {A : Option Addr} {n m : Nat}  {w : World} {K : Value → World → Prop} : (std Try.prog).step (sBuiltin .len #[22] ty c [.slice A n m]) w K = K (.int .i64 n) w := step_run (r_lens u22)
theorem sx_len22 {ty : TypeId} {c : List Bool} {A : Option Addr} {n m : Nat}  {S : World → Prop} {k : Value → Prop} (hne : ∃ w, S w) : (std Try.prog).stepS S (sBuiltin .len #[22] ty c [.slice A n m]) k = k (.int .i64 n) := stepS_run hne fun _ _ => r_lens u22
theorem px_len40 {ty : TypeId} {c : List Bool} {A : Option Addr} {n m : Nat}  {w : World} {K : Value → World → Prop} : (std Try.prog).step (sBuiltin .len #[40] ty c [.slice A n m]) w K = K (.int .i64 n) w := step_run (r_lens u40)
theorem sx_len40 {ty : TypeId} {c : List Bool} {A : Option Addr} {n m : Nat}  {S : World → Prop} {k : Value → Prop} (hne : ∃ w, S w) : (std Try.prog).stepS S (sBuiltin .len #[40] ty c [.slice A n m]) k = k (.int .i64 n) := stepS_run hne fun _ _ => r_lens u40
theorem px_len46 {ty : TypeId} {c : List Bool} {A : Option Addr} {n m : Nat}  {w : World} {K : Value → World → Prop} : (std Try.prog).step (sBuiltin .len #[46] ty c [.slice A n m]) w K = K (.int .i64 n) w := step_run (r_lens u46)
theorem sx_len46 {ty : TypeId} {c : List Bool} {A : Option Addr} {n m : Nat}  {S : World → Prop} {k : Value → Prop} (hne : ∃ w, S w) : (std Try.prog).stepS S (sBuiltin .len #[46] ty c [.slice A n m]) k = k (.int .i64 n) := stepS_run hne fun _ _ => r_lens u46
theorem px_fa24_0 {a : Addr}  {w : World} {K : Value → World → Prop} : (std Try.prog).step (sFieldAddr 24 (.pointer (some a)) 0) w K = K (.pointer (some (a))) w := step_run (rfa24_0)
theorem sx_fa24_0 {a : Addr}  {S : World → Prop} {k : Value → Prop} (hne : ∃ w, S w) : (std Try.prog).stepS S (sFieldAddr 24 (.pointer (some a)) 0) k = k (.pointer (some (a))) := stepS_run hne fun _ _ => rfa24_0
theorem px_fa24_1 {a : Addr}  {w : World} {K : Value → World → Prop} : (std Try.prog).step (sFieldAddr 24 (.pointer (some a)) 1) w K = K (.pointer (some (a.add 1))) w := step_run (rfa24_1)
theorem sx_fa24_1 {a : Addr}  {S : World → Prop} {k : Value → Prop} (hne : ∃ w, S w) : (std Try.prog).stepS S (sFieldAddr 24 (.pointer (some a)) 1) k = k (.pointer (some (a.add 1))) := stepS_run hne fun _ _ => rfa24_1
theorem px_fa31_0 {a : Addr}  {w : World} {K : Value → World → Prop} : (std Try.prog).step (sFieldAddr 31 (.pointer (some a)) 0) w K = K (.pointer (some (a))) w := step_run (rfa31_0)
theorem sx_fa31_0 {a : Addr}  {S : World → Prop} {k : Value → Prop} (hne : ∃ w, S w) : (std Try.prog).stepS S (sFieldAddr 31 (.pointer (some a)) 0) k = k (.pointer (some (a))) := stepS_run hne fun _ _ => rfa31_0
theorem px_fa31_1 {a : Addr}  {w : World} {K : Value → World → Prop} : (std Try.prog).step (sFieldAddr 31 (.pointer (some a)) 1) w K = K (.pointer (some (a.add 1))) w := step_run (rfa31_1)
theorem sx_fa31_1 {a : Addr}  {S : World → Prop} {k : Value → Prop} (hne : ∃ w, S w) : (std Try.prog).stepS S (sFieldAddr 31 (.pointer (some a)) 1) k = k (.pointer (some (a.add 1))) := stepS_run hne fun _ _ => rfa31_1
theorem px_fa31_2 {a : Addr}  {w : World} {K : Value → World → Prop} : (std Try.prog).step (sFieldAddr 31 (.pointer (some a)) 2) w K = K (.pointer (some (a.add 2))) w := step_run (rfa31_2)
theorem sx_fa31_2 {a : Addr}  {S : World → Prop} {k : Value → Prop} (hne : ∃ w, S w) : (std Try.prog).stepS S (sFieldAddr 31 (.pointer (some a)) 2) k = k (.pointer (some (a.add 2))) := stepS_run hne fun _ _ => rfa31_2
theorem px_fa34_0 {a : Addr}  {w : World} {K : Value → World → Prop} : (std Try.prog).step (sFieldAddr 34 (.pointer (some a)) 0) w K = K (.pointer (some (a))) w := step_run (rfa34_0)
theorem sx_fa34_0 {a : Addr}  {S : World → Prop} {k : Value → Prop} (hne : ∃ w, S w) : (std Try.prog).stepS S (sFieldAddr 34 (.pointer (some a)) 0) k = k (.pointer (some (a))) := stepS_run hne fun _ _ => rfa34_0
theorem px_fa34_1 {a : Addr}  {w : World} {K : Value → World → Prop} : (std Try.prog).step (sFieldAddr 34 (.pointer (some a)) 1) w K = K (.pointer (some (a.add 1))) w := step_run (rfa34_1)
theorem sx_fa34_1 {a : Addr}  {S : World → Prop} {k : Value → Prop} (hne : ∃ w, S w) : (std Try.prog).stepS S (sFieldAddr 34 (.pointer (some a)) 1) k = k (.pointer (some (a.add 1))) := stepS_run hne fun _ _ => rfa34_1
theorem px_fa34_2 {a : Addr}  {w : World} {K : Value → World → Prop} : (std Try.prog).step (sFieldAddr 34 (.pointer (some a)) 2) w K = K (.pointer (some (a.add 2))) w := step_run (rfa34_2)
theorem sx_fa34_2 {a : Addr}  {S : World → Prop} {k : Value → Prop} (hne : ∃ w, S w) : (std Try.prog).stepS S (sFieldAddr 34 (.pointer (some a)) 2) k = k (.pointer (some (a.add 2))) := stepS_run hne fun _ _ => rfa34_2
/-- the rules for single steps, all at once -/
theorem PX : (∀ {t : TypeId} {x y : Operand} {q : IntKind} {a b : Int}  {w : World} {K : Value → World → Prop}, (std Try.prog).step (sBin .add t x y (.int q a) (.int q b)) w K = K (.int q (q.wrap (a + b))) w) ∧
  (∀ {t : TypeId} {x y : Operand} {q : IntKind} {a b : Int}  {w : World} {K : Value → World → Prop}, (std Try.prog).step (sBin .sub t x y (.int q a) (.int q b)) w K = K (.int q (q.wrap (a - b))) w) ∧
  (∀ {t : TypeId} {x y : Operand} {q : IntKind} {a b : Int}  {w : World} {K : Value → World → Prop}, (std Try.prog).step (sBin .mul t x y (.int q a) (.int q b)) w K = K (.int q (q.wrap (a * b))) w) ∧
  (∀ {t : TypeId} {x y : Operand} {q : IntKind} {a b : Int}  {w : World} {K : Value → World → Prop}, (std Try.prog).step (sBin .and t x y (.int q a) (.int q b)) w K = K (.int q (bitOp .and q a b)) w) ∧
  (∀ {t : TypeId} {x y : Operand} {q : IntKind} {a b : Int}  {w : World} {K : Value → World → Prop}, (std Try.prog).step (sBin .or t x y (.int q a) (.int q b)) w K = K (.int q (bitOp .or q a b)) w) ∧
  (∀ {t : TypeId} {x y : Operand} {q : IntKind} {a b : Int}  {w : World} {K : Value → World → Prop}, (std Try.prog).step (sBin .xor t x y (.int q a) (.int q b)) w K = K (.int q (bitOp .xor q a b)) w) ∧
  (∀ {t : TypeId} {x y : Operand} {q : IntKind} {a b : Int}  {w : World} {K : Value → World → Prop}, (std Try.prog).step (sBin .lss t x y (.int q a) (.int q b)) w K = K (.bool (decide (a < b))) w) ∧
  (∀ {t : TypeId} {x y : Operand} {q : IntKind} {a b : Int}  {w : World} {K : Value → World → Prop}, (std Try.prog).step (sBin .leq t x y (.int q a) (.int q b)) w K = K (.bool (decide (a ≤ b))) w) ∧
  (∀ {t : TypeId} {x y : Operand} {q : IntKind} {a b : Int}  {w : World} {K : Value → World → Prop}, (std Try.prog).step (sBin .gtr t x y (.int q a) (.int q b)) w K = K (.bool (decide (b < a))) w) ∧
  (∀ {t : TypeId} {x y : Operand} {q : IntKind} {a b : Int}  {w : World} {K : Value → World → Prop}, (std Try.prog).step (sBin .geq t x y (.int q a) (.int q b)) w K = K (.bool (decide (b ≤ a))) w) ∧
  (∀ {t : TypeId} {x y : Operand} {q : IntKind} {a b : Int}  {w : World} {K : Value → World → Prop}, (std Try.prog).step (sBin .eql t x y (.int q a) (.int q b)) w K = K (.bool (decide (a = b))) w) ∧
  (∀ {t : TypeId} {x y : Operand} {q : IntKind} {a b : Int}  {w : World} {K : Value → World → Prop}, (std Try.prog).step (sBin .neq t x y (.int q a) (.int q b)) w K = K (.bool (decide (a ≠ b))) w) ∧
  (∀ {t : TypeId} {x y : Operand} {q : IntKind} {a b : Int} (h : b ≠ 0) {w : World} {K : Value → World → Prop}, (std Try.prog).step (sBin .quo t x y (.int q a) (.int q b)) w K = K (.int q (q.wrap (a.tdiv b))) w) ∧
  (∀ {t : TypeId} {x y : Operand} {q : IntKind} {a b : Int} (h : b ≠ 0) {w : World} {K : Value → World → Prop}, (std Try.prog).step (sBin .rem t x y (.int q a) (.int q b)) w K = K (.int q (a.tmod b)) w) ∧
  (∀ {t : TypeId} {x y : Operand} {q q' : IntKind} {a b : Int} (h : ¬ b < 0) {w : World} {K : Value → World → Prop}, (std Try.prog).step (sBin .shl t x y (.int q a) (.int q' b)) w K = K (.int q (q.wrap (a * 2 ^ (min b.toNat q.bits)))) w) ∧
  (∀ {t : TypeId} {x y : Operand} {q q' : IntKind} {a b : Int} (h : ¬ b < 0) {w : World} {K : Value → World → Prop}, (std Try.prog).step (sBin .shr t x y (.int q a) (.int q' b)) w K = K (.int q (a.fdiv (2 ^ (min b.toNat q.bits)))) w) ∧
  (∀ {t : TypeId} {x y : Operand} {a b : ByteArray}  {w : World} {K : Value → World → Prop}, (std Try.prog).step (sBin .eql t x y (.string a) (.string b)) w K = K (.bool (decide (a = b))) w) ∧
  (∀ {t : TypeId} {x y : Operand} {a b : ByteArray}  {w : World} {K : Value → World → Prop}, (std Try.prog).step (sBin .neq t x y (.string a) (.string b)) w K = K (.bool (!decide (a = b))) w) ∧
  (∀ {t : TypeId} {x y : Operand} {a b : ByteArray} (h : a.size + b.size ≤ 9223372036854775807) {w : World} {K : Value → World → Prop}, (std Try.prog).step (sBin .add t x y (.string a) (.string b)) w K = K (.string (a ++ b)) w) ∧
  (∀ {b : Bool}  {w : World} {K : Value → World → Prop}, (std Try.prog).step (sUn .not (.bool b)) w K = K (.bool (!b)) w) ∧
  (∀ {q : IntKind} {a : Int}  {w : World} {K : Value → World → Prop}, (std Try.prog).step (sUn .neg (.int q a)) w K = K (.int q (q.wrap (0 - a))) w) ∧
  (∀ {q : IntKind} {a : Int}  {w : World} {K : Value → World → Prop}, (std Try.prog).step (sUn .xor (.int q a)) w K = K (.int q (bitOp .xor q (if q.signed then -1 else q.max) a)) w) ∧
  (∀ {a : Addr}  {w : World} {K : Value → World → Prop}, (std Try.prog).step (sNil (.pointer (some a))) w K = K (.pointer (some a)) w) ∧
  (∀ {a b : Value}  {w : World} {K : Value → World → Prop}, (std Try.prog).step (sExtract (.tuple #[a, b]) 0) w K = K (a) w) ∧
  (∀ {a b : Value}  {w : World} {K : Value → World → Prop}, (std Try.prog).step (sExtract (.tuple #[a, b]) 1) w K = K (b) w) ∧
  (∀ {a b c : Value}  {w : World} {K : Value → World → Prop}, (std Try.prog).step (sExtract (.tuple #[a, b, c]) 0) w K = K (a) w) ∧
  (∀ {a b c : Value}  {w : World} {K : Value → World → Prop}, (std Try.prog).step (sExtract (.tuple #[a, b, c]) 1) w K = K (b) w) ∧
  (∀ {a b c : Value}  {w : World} {K : Value → World → Prop}, (std Try.prog).step (sExtract (.tuple #[a, b, c]) 2) w K = K (c) w) ∧
  (∀ {ats : Array TypeId} {ty : TypeId} {c : List Bool} {q : IntKind} {a b : Int}  {w : World} {K : Value → World → Prop}, (std Try.prog).step (sBuiltin .min ats ty c [.int q a, .int q b]) w K = K (.int q (if b < a then b else a)) w) ∧
  (∀ {ats : Array TypeId} {ty : TypeId} {c : List Bool} {q : IntKind} {a b : Int}  {w : World} {K : Value → World → Prop}, (std Try.prog).step (sBuiltin .max ats ty c [.int q a, .int q b]) w K = K (.int q (if a < b then b else a)) w) ∧
  (∀ {x y : Operand} {a b : Bool}  {w : World} {K : Value → World → Prop}, (std Try.prog).step (sBin .eql 4 x y (.bool a) (.bool b)) w K = K (.bool (a == b)) w) ∧
  (∀ {ty : TypeId} {c : List Bool} {A : Option Addr} {n m : Nat}  {w : World} {K : Value → World → Prop}, (std Try.prog).step (sBuiltin .len #[22] ty c [.slice A n m]) w K = K (.int .i64 n) w) ∧
  (∀ {ty : TypeId} {c : List Bool} {A : Option Addr} {n m : Nat}  {w : World} {K : Value → World → Prop}, (std Try.prog).step (sBuiltin .len #[40] ty c [.slice A n m]) w K = K (.int .i64 n) w) ∧
  (∀ {ty : TypeId} {c : List Bool} {A : Option Addr} {n m : Nat}  {w : World} {K : Value → World → Prop}, (std Try.prog).step (sBuiltin .len #[46] ty c [.slice A n m]) w K = K (.int .i64 n) w) ∧
  (∀ {a : Addr}  {w : World} {K : Value → World → Prop}, (std Try.prog).step (sFieldAddr 24 (.pointer (some a)) 0) w K = K (.pointer (some (a))) w) ∧
  (∀ {a : Addr}  {w : World} {K : Value → World → Prop}, (std Try.prog).step (sFieldAddr 24 (.pointer (some a)) 1) w K = K (.pointer (some (a.add 1))) w) ∧
  (∀ {a : Addr}  {w : World} {K : Value → World → Prop}, (std Try.prog).step (sFieldAddr 31 (.pointer (some a)) 0) w K = K (.pointer (some (a))) w) ∧
  (∀ {a : Addr}  {w : World} {K : Value → World → Prop}, (std Try.prog).step (sFieldAddr 31 (.pointer (some a)) 1) w K = K (.pointer (some (a.add 1))) w) ∧
  (∀ {a : Addr}  {w : World} {K : Value → World → Prop}, (std Try.prog).step (sFieldAddr 31 (.pointer (some a)) 2) w K = K (.pointer (some (a.add 2))) w) ∧
  (∀ {a : Addr}  {w : World} {K : Value → World → Prop}, (std Try.prog).step (sFieldAddr 34 (.pointer (some a)) 0) w K = K (.pointer (some (a))) w) ∧
  (∀ {a : Addr}  {w : World} {K : Value → World → Prop}, (std Try.prog).step (sFieldAddr 34 (.pointer (some a)) 1) w K = K (.pointer (some (a.add 1))) w) ∧
  (∀ {a : Addr}  {w : World} {K : Value → World → Prop}, (std Try.prog).step (sFieldAddr 34 (.pointer (some a)) 2) w K = K (.pointer (some (a.add 2))) w) := ⟨@px_add, @px_sub, @px_mul, @px_and, @px_or, @px_xor, @px_lss, @px_leq, @px_gtr, @px_geq, @px_eql, @px_neq, @px_quo, @px_rem, @px_shl, @px_shr, @px_seql, @px_sneq, @px_sadd, @px_not, @px_neg, @px_inv, @px_nilc, @px_ext20, @px_ext21, @px_ext30, @px_ext31, @px_ext32, @px_min, @px_max, @px_beql4, @px_len22, @px_len40, @px_len46, @px_fa24_0, @px_fa24_1, @px_fa31_0, @px_fa31_1, @px_fa31_2, @px_fa34_0, @px_fa34_1, @px_fa34_2⟩
theorem SX : (∀ {t : TypeId} {x y : Operand} {q : IntKind} {a b : Int}  {S : World → Prop} {k : Value → Prop} (hne : ∃ w, S w), (std Try.prog).stepS S (sBin .add t x y (.int q a) (.int q b)) k = k (.int q (q.wrap (a + b)))) ∧
  (∀ {t : TypeId} {x y : Operand} {q : IntKind} {a b : Int}  {S : World → Prop} {k : Value → Prop} (hne : ∃ w, S w), (std Try.prog).stepS S (sBin .sub t x y (.int q a) (.int q b)) k = k (.int q (q.wrap (a - b)))) ∧
  (∀ {t : TypeId} {x y : Operand} {q : IntKind} {a b : Int}  {S : World → Prop} {k : Value → Prop} (hne : ∃ w, S w), (std Try.prog).stepS S (sBin .mul t x y (.int q a) (.int q b)) k = k (.int q (q.wrap (a * b)))) ∧
  (∀ {t : TypeId} {x y : Operand} {q : IntKind} {a b : Int}  {S : World → Prop} {k : Value → Prop} (hne : ∃ w, S w), (std Try.prog).stepS S (sBin .and t x y (.int q a) (.int q b)) k = k (.int q (bitOp .and q a b))) ∧
  (∀ {t : TypeId} {x y : Operand} {q : IntKind} {a b : Int}  {S : World → Prop} {k : Value → Prop} (hne : ∃ w, S w), (std Try.prog).stepS S (sBin .or t x y (.int q a) (.int q b)) k = k (.int q (bitOp .or q a b))) ∧
  (∀ {t : TypeId} {x y : Operand} {q : IntKind} {a b : Int}  {S : World → Prop} {k : Value → Prop} (hne : ∃ w, S w), (std Try.prog).stepS S (sBin .xor t x y (.int q a) (.int q b)) k = k (.int q (bitOp .xor q a b))) ∧
  (∀ {t : TypeId} {x y : Operand} {q : IntKind} {a b : Int}  {S : World → Prop} {k : Value → Prop} (hne : ∃ w, S w), (std Try.prog).stepS S (sBin .lss t x y (.int q a) (.int q b)) k = k (.bool (decide (a < b)))) ∧
  (∀ {t : TypeId} {x y : Operand} {q : IntKind} {a b : Int}  {S : World → Prop} {k : Value → Prop} (hne : ∃ w, S w), (std Try.prog).stepS S (sBin .leq t x y (.int q a) (.int q b)) k = k (.bool (decide (a ≤ b)))) ∧
  (∀ {t : TypeId} {x y : Operand} {q : IntKind} {a b : Int}  {S : World → Prop} {k : Value → Prop} (hne : ∃ w, S w), (std Try.prog).stepS S (sBin .gtr t x y (.int q a) (.int q b)) k = k (.bool (decide (b < a)))) ∧
  (∀ {t : TypeId} {x y : Operand} {q : IntKind} {a b : Int}  {S : World → Prop} {k : Value → Prop} (hne : ∃ w, S w), (std Try.prog).stepS S (sBin .geq t x y (.int q a) (.int q b)) k = k (.bool (decide (b ≤ a)))) ∧
  (∀ {t : TypeId} {x y : Operand} {q : IntKind} {a b : Int}  {S : World → Prop} {k : Value → Prop} (hne : ∃ w, S w), (std Try.prog).stepS S (sBin .eql t x y (.int q a) (.int q b)) k = k (.bool (decide (a = b)))) ∧
  (∀ {t : TypeId} {x y : Operand} {q : IntKind} {a b : Int}  {S : World → Prop} {k : Value → Prop} (hne : ∃ w, S w), (std Try.prog).stepS S (sBin .neq t x y (.int q a) (.int q b)) k = k (.bool (decide (a ≠ b)))) ∧
  (∀ {t : TypeId} {x y : Operand} {q : IntKind} {a b : Int} (h : b ≠ 0) {S : World → Prop} {k : Value → Prop} (hne : ∃ w, S w), (std Try.prog).stepS S (sBin .quo t x y (.int q a) (.int q b)) k = k (.int q (q.wrap (a.tdiv b)))) ∧
  (∀ {t : TypeId} {x y : Operand} {q : IntKind} {a b : Int} (h : b ≠ 0) {S : World → Prop} {k : Value → Prop} (hne : ∃ w, S w), (std Try.prog).stepS S (sBin .rem t x y (.int q a) (.int q b)) k = k (.int q (a.tmod b))) ∧
  (∀ {t : TypeId} {x y : Operand} {q q' : IntKind} {a b : Int} (h : ¬ b < 0) {S : World → Prop} {k : Value → Prop} (hne : ∃ w, S w), (std Try.prog).stepS S (sBin .shl t x y (.int q a) (.int q' b)) k = k (.int q (q.wrap (a * 2 ^ (min b.toNat q.bits))))) ∧
  (∀ {t : TypeId} {x y : Operand} {q q' : IntKind} {a b : Int} (h : ¬ b < 0) {S : World → Prop} {k : Value → Prop} (hne : ∃ w, S w), (std Try.prog).stepS S (sBin .shr t x y (.int q a) (.int q' b)) k = k (.int q (a.fdiv (2 ^ (min b.toNat q.bits))))) ∧
  (∀ {t : TypeId} {x y : Operand} {a b : ByteArray}  {S : World → Prop} {k : Value → Prop} (hne : ∃ w, S w), (std Try.prog).stepS S (sBin .eql t x y (.string a) (.string b)) k = k (.bool (decide (a = b)))) ∧
  (∀ {t : TypeId} {x y : Operand} {a b : ByteArray}  {S : World → Prop} {k : Value → Prop} (hne : ∃ w, S w), (std Try.prog).stepS S (sBin .neq t x y (.string a) (.string b)) k = k (.bool (!decide (a = b)))) ∧
  (∀ {t : TypeId} {x y : Operand} {a b : ByteArray} (h : a.size + b.size ≤ 9223372036854775807) {S : World → Prop} {k : Value → Prop} (hne : ∃ w, S w), (std Try.prog).stepS S (sBin .add t x y (.string a) (.string b)) k = k (.string (a ++ b))) ∧
  (∀ {b : Bool}  {S : World → Prop} {k : Value → Prop} (hne : ∃ w, S w), (std Try.prog).stepS S (sUn .not (.bool b)) k = k (.bool (!b))) ∧
  (∀ {q : IntKind} {a : Int}  {S : World → Prop} {k : Value → Prop} (hne : ∃ w, S w), (std Try.prog).stepS S (sUn .neg (.int q a)) k = k (.int q (q.wrap (0 - a)))) ∧
  (∀ {q : IntKind} {a : Int}  {S : World → Prop} {k : Value → Prop} (hne : ∃ w, S w), (std Try.prog).stepS S (sUn .xor (.int q a)) k = k (.int q (bitOp .xor q (if q.signed then -1 else q.max) a))) ∧
  (∀ {a : Addr}  {S : World → Prop} {k : Value → Prop} (hne : ∃ w, S w), (std Try.prog).stepS S (sNil (.pointer (some a))) k = k (.pointer (some a))) ∧
  (∀ {a b : Value}  {S : World → Prop} {k : Value → Prop} (hne : ∃ w, S w), (std Try.prog).stepS S (sExtract (.tuple #[a, b]) 0) k = k (a)) ∧
  (∀ {a b : Value}  {S : World → Prop} {k : Value → Prop} (hne : ∃ w, S w), (std Try.prog).stepS S (sExtract (.tuple #[a, b]) 1) k = k (b)) ∧
  (∀ {a b c : Value}  {S : World → Prop} {k : Value → Prop} (hne : ∃ w, S w), (std Try.prog).stepS S (sExtract (.tuple #[a, b, c]) 0) k = k (a)) ∧
  (∀ {a b c : Value}  {S : World → Prop} {k : Value → Prop} (hne : ∃ w, S w), (std Try.prog).stepS S (sExtract (.tuple #[a, b, c]) 1) k = k (b)) ∧
  (∀ {a b c : Value}  {S : World → Prop} {k : Value → Prop} (hne : ∃ w, S w), (std Try.prog).stepS S (sExtract (.tuple #[a, b, c]) 2) k = k (c)) ∧
  (∀ {ats : Array TypeId} {ty : TypeId} {c : List Bool} {q : IntKind} {a b : Int}  {S : World → Prop} {k : Value → Prop} (hne : ∃ w, S w), (std Try.prog).stepS S (sBuiltin .min ats ty c [.int q a, .int q b]) k = k (.int q (if b < a then b else a))) ∧
  (∀ {ats : Array TypeId} {ty : TypeId} {c : List Bool} {q : IntKind} {a b : Int}  {S : World → Prop} {k : Value → Prop} (hne : ∃ w, S w), (std Try.prog).stepS S (sBuiltin .max ats ty c [.int q a, .int q b]) k = k (.int q (if a < b then b else a))) ∧
  (∀ {x y : Operand} {a b : Bool}  {S : World → Prop} {k : Value → Prop} (hne : ∃ w, S w), (std Try.prog).stepS S (sBin .eql 4 x y (.bool a) (.bool b)) k = k (.bool (a == b))) ∧
  (∀ {ty : TypeId} {c : List Bool} {A : Option Addr} {n m : Nat}  {S : World → Prop} {k : Value → Prop} (hne : ∃ w, S w), (std Try.prog).stepS S (sBuiltin .len #[22] ty c [.slice A n m]) k = k (.int .i64 n)) ∧
  (∀ {ty : TypeId} {c : List Bool} {A : Option Addr} {n m : Nat}  {S : World → Prop} {k : Value → Prop} (hne : ∃ w, S w), (std Try.prog).stepS S (sBuiltin .len #[40] ty c [.slice A n m]) k = k (.int .i64 n)) ∧
  (∀ {ty : TypeId} {c : List Bool} {A : Option Addr} {n m : Nat}  {S : World → Prop} {k : Value → Prop} (hne : ∃ w, S w), (std Try.prog).stepS S (sBuiltin .len #[46] ty c [.slice A n m]) k = k (.int .i64 n)) ∧
  (∀ {a : Addr}  {S : World → Prop} {k : Value → Prop} (hne : ∃ w, S w), (std Try.prog).stepS S (sFieldAddr 24 (.pointer (some a)) 0) k = k (.pointer (some (a)))) ∧
  (∀ {a : Addr}  {S : World → Prop} {k : Value → Prop} (hne : ∃ w, S w), (std Try.prog).stepS S (sFieldAddr 24 (.pointer (some a)) 1) k = k (.pointer (some (a.add 1)))) ∧
  (∀ {a : Addr}  {S : World → Prop} {k : Value → Prop} (hne : ∃ w, S w), (std Try.prog).stepS S (sFieldAddr 31 (.pointer (some a)) 0) k = k (.pointer (some (a)))) ∧
  (∀ {a : Addr}  {S : World → Prop} {k : Value → Prop} (hne : ∃ w, S w), (std Try.prog).stepS S (sFieldAddr 31 (.pointer (some a)) 1) k = k (.pointer (some (a.add 1)))) ∧
  (∀ {a : Addr}  {S : World → Prop} {k : Value → Prop} (hne : ∃ w, S w), (std Try.prog).stepS S (sFieldAddr 31 (.pointer (some a)) 2) k = k (.pointer (some (a.add 2)))) ∧
  (∀ {a : Addr}  {S : World → Prop} {k : Value → Prop} (hne : ∃ w, S w), (std Try.prog).stepS S (sFieldAddr 34 (.pointer (some a)) 0) k = k (.pointer (some (a)))) ∧
  (∀ {a : Addr}  {S : World → Prop} {k : Value → Prop} (hne : ∃ w, S w), (std Try.prog).stepS S (sFieldAddr 34 (.pointer (some a)) 1) k = k (.pointer (some (a.add 1)))) ∧
  (∀ {a : Addr}  {S : World → Prop} {k : Value → Prop} (hne : ∃ w, S w), (std Try.prog).stepS S (sFieldAddr 34 (.pointer (some a)) 2) k = k (.pointer (some (a.add 2)))) := ⟨@sx_add, @sx_sub, @sx_mul, @sx_and, @sx_or, @sx_xor, @sx_lss, @sx_leq, @sx_gtr, @sx_geq, @sx_eql, @sx_neq, @sx_quo, @sx_rem, @sx_shl, @sx_shr, @sx_seql, @sx_sneq, @sx_sadd, @sx_not, @sx_neg, @sx_inv, @sx_nilc, @sx_ext20, @sx_ext21, @sx_ext30, @sx_ext31, @sx_ext32, @sx_min, @sx_max, @sx_beql4, @sx_len22, @sx_len40, @sx_len46, @sx_fa24_0, @sx_fa24_1, @sx_fa31_0, @sx_fa31_1, @sx_fa31_2, @sx_fa34_0, @sx_fa34_1, @sx_fa34_2⟩
theorem SLX : (∀ {a : Addr} {v : Value} {S : World → Prop} {k : Value → Prop} (hne : ∃ w, S w) (h : ∀ w, S w → w.cell? a = some v), (std Try.prog).stepS S (sLoad 22 (.pointer (some a))) k = k v) ∧
  (∀ {a : Addr} {v : Value} {S : World → Prop} {k : Value → Prop} (hne : ∃ w, S w) (h : ∀ w, S w → w.cell? a = some v), (std Try.prog).stepS S (sLoad 3 (.pointer (some a))) k = k v) ∧
  (∀ {a : Addr} {v : Value} {S : World → Prop} {k : Value → Prop} (hne : ∃ w, S w) (h : ∀ w, S w → w.cell? a = some v), (std Try.prog).stepS S (sLoad 4 (.pointer (some a))) k = k v) := ⟨@sld22, @sld3, @sld4⟩
theorem LX : (∀ {a : Addr} {v : Value} {w : World} {K : Value → World → Prop} (h : w.cell? a = some v), (std Try.prog).step (sLoad 22 (.pointer (some a))) w K = K v w) ∧
  (∀ {a : Addr} {v : Value} {w : World} {K : Value → World → Prop} (h : w.cell? a = some v), (std Try.prog).step (sLoad 3 (.pointer (some a))) w K = K v w) ∧
  (∀ {a : Addr} {v : Value} {w : World} {K : Value → World → Prop} (h : w.cell? a = some v), (std Try.prog).step (sLoad 4 (.pointer (some a))) w K = K v w) := ⟨@ld22, @ld3, @ld4⟩
theorem BX : (∀ (p : Prop) [Decidable p] (A B : Prop), (std Try.prog).bool (.bool (decide p)) A B = ((p → A) ∧ (¬ p → B))) ∧ (∀ (A B : Prop), (std Try.prog).bool (.bool true) A B = A) ∧ (∀ (A B : Prop), (std Try.prog).bool (.bool false) A B = B) ∧ (∀ (b : Bool) (A B : Prop), (std Try.prog).bool (.bool (!b)) A B = (std Try.prog).bool (.bool b) B A) := ⟨fun p => bool_dec p, bool_true, bool_false, bool_not⟩
end Go.Proofs.Ytnghnolpohahpaa
